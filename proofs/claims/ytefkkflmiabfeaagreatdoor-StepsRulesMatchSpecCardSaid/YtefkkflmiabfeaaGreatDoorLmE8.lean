/- One operation: slices that are built, components, bytes and strings. -/
import Derived.Test.YtefkkflmiabfeaaGreatDoorLmE7
set_option linter.unusedVariables false
set_option linter.unusedSimpArgs false
namespace Go.Lm
section
variable {R : Type} {P : Program} {T : Nat → Option TI} {C : Nat → Hd R}

/-- A new block, whatever made it. -/
theorem RelO.fresh' {fr : Fr} {q : Q} {a : Act} {c : Cx} {xs : List LV} {vs : List Value} {o : Ow} (h : RelO fr q a c xs vs o) (w' : World) (hsame : ∀ b, b < c.w.heap.size → w'.heap[b]? = c.w.heap[b]?) (hsz : w'.heap.size = c.w.heap.size + 1)
    (hos : w'.os = c.w.os) (htp : w'.tape = c.w.tape) (hout : w'.output = c.w.output) (J : Nat → Prop)
    {x : LV} {v : Value} (hr : ∀ c' : Cx, c'.w = w' → Ext c c' (fun _ => False) → (∀ p, c'.I c.w.heap.size p ↔ J p) → (∃ O, (O = [] ∨ O = [c.w.heap.size]) ∧ Rep c' x v O)) :
    ∃ c' o', c'.w = w' ∧ RelO fr q a c' (xs ++ [x]) (vs ++ [v]) o' := by
  let c' : Cx := { c with I := fun b p => c.I b p ∨ (b = c.w.heap.size ∧ J p), w := w' }
  have hext : Ext c c' (fun _ => False) := ⟨Nat.le_refl _, fun _ _ => rfl, fun b p hp => .inl hp, fun b p hp => World.cell?_of_block (w := c.w) (hsame b (h.sto.bd b p hp)), by show _ ≤ w'.heap.size; omega, fun b hb _ => hsame b hb,
    fun b p hb _ hp => by
      rcases hp with hp | hp
      · exact hp
      · omega, (fun _ _ _ _ h _ => False.elim h), hos, htp, hout⟩
  have hI : ∀ p, c'.I c.w.heap.size p ↔ J p := fun p => ⟨fun hp => by
    rcases hp with hp | hp
    · have := h.sto.bd _ _ hp; omega
    · exact hp.2, fun hp => .inr ⟨rfl, hp⟩⟩
  obtain ⟨O, hO, hrep⟩ := hr c' rfl hext hI
  have hmove := h.move (c' := c') hext (fun _ hf => hf.elim) rfl (fun b p hp => by
    show b < w'.heap.size
    rcases hp with hp | hp
    · have := h.sto.bd b p hp; omega
    · omega)
  have hnot : ∀ k, c.w.heap.size ∉ o k := fun k hk => by have := (h.own k _ hk).1; omega
  refine ⟨c', upd o (.arg xs.length) O, rfl, hmove.len, hmove.alen, fun t ht => ?_, hmove.al, ⟨hmove.sto.n, fun id hid => ?_, hmove.sto.bd⟩, fun i hi => ?_, by simp [hmove.flyl], ?_, hmove.ext, fun k g hg => ?_, hmove.df⟩
  · rw [upd_other _ _ (by simp)]; exact hmove.env t ht
  · rw [upd_other _ _ (by simp)]; exact hmove.sto.r id hid
  · by_cases e : i = xs.length
    · subst e; rw [upd_same, ← hmove.flyl]; simpa [List.getD_eq_getElem?_getD, hmove.flyl] using hrep
    · have hi' : i < xs.length := by simp at hi; omega
      rw [upd_other _ _ (by simp [e])]
      have := hmove.fly i hi'
      rwa [getD_app_lt _ _ _ _ hi', getD_app_lt _ _ _ _ (by rw [hmove.flyl]; exact hi')]
  · refine ⟨fun k => ?_, fun k k' g hne hg => ?_⟩
    · unfold upd; split
      · rcases hO with rfl | rfl <;> simp
      · exact h.sep.nd k
    · unfold upd at hg ⊢
      split at hg
      · rename_i hk
        split
        · rename_i hk'; exact absurd (hk.trans hk'.symm) hne
        · rcases hO with rfl | rfl
          · simp at hg
          · simp at hg; subst hg; exact hnot k'
      · split
        · rcases hO with rfl | rfl
          · simp
          · intro hm; simp at hm; subst hm; exact hnot k hg
        · exact h.sep.dj k k' g hne hg
  · unfold upd at hg
    split at hg
    · rcases hO with rfl | rfl
      · simp at hg
      · simp at hg; subst hg; exact ⟨by show _ < w'.heap.size; omega, .inr h.ext.size⟩
    · exact hmove.own k g hg

/-- The elements of a slice that is built, one behind the other. -/
theorem fillS {c : Cx} (sz : Nat) : ∀ (ps : List (Nat × LV × Value)) (k : Nat) (cells : Array Value) (done : List LV), done.length = k → (∀ j p, ps[j]? = some p → p.1 = k + j) → (∀ p, p ∈ ps → Rep c p.2.1 p.2.2 [] ∧ (cellsOf p.2.1).length = sz ∧ (cellsOf p.2.1).all one = true) →
    (k + ps.length) * sz ≤ cells.size → (∀ i, i < cells.size → (cells.getD i undef).oneCell' = true) → (∀ p, p < k * sz → Rep c (leaf (done.getD (p / sz) .any) (p % sz)) (cells.getD p undef) []) →
    ∃ cells', Instr.fill (fun i => some (i * sz, sz)) cells (ps.map fun p => (p.1, p.2.2)) = some cells' ∧ cells'.size = cells.size ∧ (∀ i, i < cells'.size → (cells'.getD i undef).oneCell' = true) ∧
      ∀ p, p < (k + ps.length) * sz → Rep c (leaf ((done ++ ps.map (·.2.1)).getD (p / sz) .any) (p % sz)) (cells'.getD p undef) []
  | [], k, cells, done, hk, hi, hp, hb, ho, hr => ⟨cells, rfl, rfl, ho, fun p h => by simpa using hr p (by simpa using h)⟩
  | (i, x, v) :: ps, k, cells, done, hk, hi, hp, hb, ho, hr => by
    have hi0 : i = k := by simpa using hi 0 (i, x, v) rfl
    subst hi0
    have hx : Rep c x v [] := (hp (i, x, v) (by simp)).1
    have hxl : (cellsOf x).length = sz := (hp (i, x, v) (by simp)).2.1
    have hx1 : (cellsOf x).all one = true := (hp (i, x, v) (by simp)).2.2
    obtain ⟨hus, hur, hu1⟩ := rep_cells hx hx1
    simp only [List.length_cons] at hb
    have hle : i * sz + sz ≤ cells.size := by
      refine Nat.le_trans ?_ hb
      rw [← Nat.succ_mul]; exact Nat.mul_le_mul_right _ (by omega)
    generalize hc1 : v.cells.zipIdx.foldl (fun cs (p : Value × Nat) => cs.setIfInBounds (i * sz + p.2) p.1) cells = cells1
    have e : cells1 = (v.cells.toList.zipIdx 0).foldl (fun cs (p : Value × Nat) => cs.setIfInBounds (i * sz + p.2) p.1) cells := by
      rw [← hc1, ← Array.foldl_toList]; simp
    have hg : ∀ j, cells1.getD j undef = if i * sz ≤ j ∧ j < i * sz + sz then v.cells.getD (j - i * sz) undef else cells.getD j undef := fun j => by
      rw [e, foldl_get _ _ 0 _ _ (by simp; omega)]
      simp only [Nat.add_zero, Array.length_toList, hus, hxl]
      congr 1
      simp [List.getD_eq_getElem?_getD, Array.getD_eq_getD_getElem?]
    have hsz1 : cells1.size = cells.size := by rw [e]; exact foldl_size _ _ _
    obtain ⟨cells', h1, h2, h3, h4⟩ := fillS sz ps (i + 1) cells1 (done ++ [x]) (by simp [hk]) (fun j p hj => by have := hi (j + 1) p (by simpa using hj); omega) (fun p hp' => hp p (by simp [hp'])) (by rw [hsz1]; refine Nat.le_trans (Nat.le_of_eq ?_) hb; congr 1; omega)
      (fun j hj => by
        rw [hg]
        split
        · exact hu1 _ (by omega)
        · exact ho j (by omega)) (fun p hp' => by
        have hsz0 : 0 < sz := Nat.pos_of_ne_zero fun e => by subst e; simp at hp'
        rw [hg, getD_app3, hk]
        by_cases h : p < i * sz
        · rw [if_pos (Nat.div_lt_of_lt_mul (by rw [Nat.mul_comm]; exact h)), if_neg (by omega)]
          exact hr p h
        · have hp2 : p < i * sz + sz := by rw [Nat.succ_mul] at hp'; omega
          obtain ⟨m, rfl⟩ : ∃ m, p = m + i * sz := ⟨p - i * sz, by omega⟩
          have hm : m < sz := by omega
          rw [Nat.add_mul_div_right _ _ hsz0, Nat.div_eq_of_lt hm, Nat.zero_add, if_neg (Nat.lt_irrefl _), if_pos ⟨by omega, by omega⟩, Nat.add_mul_mod_self_right, Nat.mod_eq_of_lt hm, Nat.sub_self, Nat.add_sub_cancel]
          simp only [List.getD_cons_zero]
          have : leaf x m = (cellsOf x).getD m .any := by
            cases x with
            | agg ys => rfl
            | _ => cases m with
              | zero => rfl
              | succ m => simp [cellsOf] at hxl; omega
          rw [this]
          exact hur m (by omega))
    refine ⟨cells', ?_, by rw [h2, hsz1], h3, fun p hp' => ?_⟩
    · simp only [List.map_cons, Instr.fill]
      rw [if_neg (by simp; omega), hc1]
      exact h1
    · have := h4 p (by simp only [List.length_cons] at hp'; refine Nat.lt_of_lt_of_le hp' (Nat.le_of_eq ?_); congr 1; omega)
      simpa using this

theorem partsInOrder_get : ∀ (ps : List (Nat × Operand)) (n j : Nat) (p : Nat × Operand), partsInOrder n ps = true → ps[j]? = some p → p.1 = n + j
  | (i, x) :: ps, n, 0, p, h, hj => by
    simp only [partsInOrder, Bool.and_eq_true] at h
    simp at hj; subst hj
    exact Nat.eq_of_beq_eq_true h.1
  | (i, x) :: ps, n, j + 1, p, h, hj => by
    simp only [partsInOrder, Bool.and_eq_true] at h
    have := partsInOrder_get ps (n + 1) j p h.2 (by simpa using hj)
    omega

theorem ok_buildSlice {o : Oper} {q : Q} {t e : TypeId} {len sz : Nat} {i : TypeInfo} {z : Value} {ps : Array (Nat × Operand)} (ho : o.op = .buildSlice t len ps) (hd : P.underlying t = some (.slice e)) (hi : P.info? e = some i) (hsz : i.size = sz)
    (hz : i.zero = some z) (hzs : z.cells.size = i.size) (hzo : ∀ p, p < z.cells.size → (z.cells.getD p undef).oneCell' = true) (h1 : partsInOrder 0 ps.toList = true) (h2 : ps.toList.length = len) (h3 : len * sz ≤ 16777216) (hmx : len ≤ 9223372036854775807)
    (h4 : ∀ p, p ∈ ps.toList → (cellsOf (dup (ev q.E p.2))).length = sz ∧ (cellsOf (dup (ev q.E p.2))).all one = true) : OpOk P q o (.own e sz (ps.toList.map fun p => dup (ev q.E p.2))) none q := by
  refine op_val fun fr a c hr => ?_
  obtain ⟨ow, hr⟩ := hr
  subst hsz
  generalize hzero : (if len * i.size = 0 then #[] else z.cells) = zc
  generalize hcells : (Array.range (len * i.size)).map (zc[· % zc.size]!) = cells
  have hcs : cells.size = len * i.size := by subst hcells; simp
  have hco : ∀ p, p < cells.size → (cells.getD p undef).oneCell' = true := fun p hp => by
    have hp' : p < len * i.size := by omega
    have hzc : zc = z.cells := by rw [← hzero, if_neg (by omega)]
    have hz0 : 0 < z.cells.size := by rw [hzs]; exact Nat.pos_of_ne_zero fun e => by rw [e] at hp'; simp at hp'
    subst hzc
    have hm := Nat.mod_lt p hz0
    have := hzo _ hm
    subst hcells
    simpa [hp', hm, Array.getD_eq_getD_getElem?] using this
  obtain ⟨cells', f1, f2, f3, f4⟩ := fillS (c := c) i.size (ps.toList.map fun p => (p.1, dup (ev q.E p.2), a.eval p.2)) 0 cells [] rfl (fun j p hj => by
      rw [List.getElem?_map] at hj
      cases hq : ps.toList[j]? with
      | none => rw [hq] at hj; simp at hj
      | some p' => rw [hq] at hj; simp at hj; subst hj; exact partsInOrder_get _ 0 j p' h1 hq) (fun p hp => by
      obtain ⟨p', hp', rfl⟩ := List.mem_map.1 hp
      exact ⟨hr.evd p'.2, h4 p' hp'⟩) (by rw [hcs, List.length_map, h2, Nat.zero_add]; exact Nat.le_refl _) hco (fun p hp => by simp at hp)
  simp only [List.nil_append, List.map_map, Nat.zero_add, List.length_map, h2] at f1 f4
  have hlen : (ps.toList.map fun p => dup (ev q.E p.2)).length = len := by rw [List.length_map, h2]
  obtain ⟨c', o', hw, hrel⟩ := hr.fresh' (c.w.alloc (.cells cells' e)) (fun b hb => by
      show (c.w.heap.push _)[b]? = _
      rw [Array.getElem?_push, if_neg (by omega)]) (by show (c.w.heap.push _).size = _; simp) rfl rfl rfl (fun p => p < len * i.size) (x := .own e i.size (ps.toList.map fun p => dup (ev q.E p.2))) (v := .slice (some ⟨c.w.heap.size, 0, none⟩) len len)
    (fun c' hw hext hI => ⟨[c.w.heap.size], .inr rfl, by
      have := Rep.own (c := c') e i.size c.w.heap.size len (ps.toList.map fun p => dup (ev q.E p.2)) cells' (by rw [hlen]; exact Nat.le_refl _) hmx (by rw [hw]; exact heap_alloc_new _ _) (by rw [f2, hcs]) (fun p => by rw [hlen]; exact hI p) f3 (fun p hp => by
        rw [hlen] at hp
        exact (f4 p hp).ext hext (fun g hg => by simp at hg))
      rw [hlen] at this
      exact this⟩)
  refine ⟨c', _, ?_, ⟨o', hrel⟩, fun _ _ h => by cases h⟩
  rw [hw]
  have f1' : Instr.fill (fun j => some (j * i.size, i.size)) cells (ps.toList.map fun p => (p.1, a.eval p.2)) = some cells' := f1
  have h24 : ¬ (16777216 < len * i.size) := by omega
  have hbs : (Instr.buildSlice t len (ps.map fun p => (p.1, a.eval p.2))).run P c.w = .ok (.slice (some ⟨c.w.heap.size, 0, none⟩) len len) (c.w.alloc (.cells cells' e)) := by
    unfold Instr.buildSlice
    simp only [Sem.run_bind, run_underlying hd, Result.andThen_ok, sizeOf, typeInfo, run_program, hi, Sem.run_pure, h24, if_false, gt_iff_lt]
    by_cases h0 : len * i.size = 0
    · rw [if_pos h0] at hzero ⊢
      subst hzero
      simp only [Sem.run_bind, Sem.run_pure, Result.andThen_ok, hcells, Array.toList_map, f1']
      simp [newRow]
    · rw [if_neg h0] at hzero ⊢
      subst hzero
      simp only [Sem.run_bind, zeroValue, typeInfo, run_program, Result.andThen_ok, hi, Sem.run_pure, hz, hcells, Array.toList_map, f1']
      simp [newRow]
  simp [execOp, ho, hbs]
end
end Go.Lm

/- One operation: components, calls. -/
namespace Go.Lm
section
variable {R : Type} {P : Program} {T : Nat → Option TI} {C : Nat → Hd R}

theorem flatO_mem {n : Nat} {os : Nat → List Nat} {g : Nat} : g ∈ flatO n os ↔ ∃ i, i < n ∧ g ∈ os i := by
  simp [flatO]
theorem flatO_nd : ∀ {n : Nat} {os : Nat → List Nat}, (flatO n os).Nodup → (∀ i, i < n → (os i).Nodup) ∧ ∀ i j g, i < n → j < n → i ≠ j → g ∈ os i → g ∉ os j
  | 0, os, _ => ⟨fun i hi => absurd hi (by simp), fun i j g hi => absurd hi (by simp)⟩
  | n + 1, os, h => by
    have e : flatO (n + 1) os = flatO n os ++ os n := by simp [flatO, List.range_succ]
    rw [e, List.nodup_append] at h
    obtain ⟨h1, h2⟩ := flatO_nd h.1
    refine ⟨fun i hi => ?_, fun i j g hi hj hne hgi hgj => ?_⟩
    · by_cases e : i = n
      · subst e; exact h.2.1
      · exact h1 i (by omega)
    · by_cases ei : i = n
      · subst ei
        exact h.2.2 g (flatO_mem.2 ⟨j, by omega, hgj⟩) g hgi rfl
      · by_cases ej : j = n
        · subst ej
          exact h.2.2 g (flatO_mem.2 ⟨i, by omega, hgi⟩) g hgj rfl
        · exact h2 i j g (by omega) (by omega) hne hgi hgj
theorem flatO_nd_mk : ∀ {n : Nat} {os : Nat → List Nat}, (∀ i, i < n → (os i).Nodup) → (∀ i j g, i < n → j < n → i ≠ j → g ∈ os i → g ∉ os j) → (flatO n os).Nodup
  | 0, os, _, _ => by simp [flatO]
  | n + 1, os, h1, h2 => by
    have e : flatO (n + 1) os = flatO n os ++ os n := by simp [flatO, List.range_succ]
    rw [e, List.nodup_append]
    refine ⟨flatO_nd_mk (fun i hi => h1 i (by omega)) (fun i j g hi hj => h2 i j g (by omega) (by omega)), h1 n (by omega), fun g hg g' hg' e => ?_⟩
    subst e
    obtain ⟨i, hi, hgi⟩ := flatO_mem.1 hg
    exact h2 i n g (by omega) (by omega) (by omega) hgi hg'

theorem ok_extract_dup {o : Oper} {q : Q} {t i : Nat} {vs : List LV} (ho : o.op = .extract (.tmp t) i) (hx : ev q.E (.tmp t) = .tup vs) (hi : i < vs.length) :
    OpOk P q o (dup (vs.getD i .any)) none q :=
  op_pure fun fr a c hr => by
    obtain ⟨O, r⟩ := hr.evr (.tmp t)
    rw [hx] at r
    generalize hv : a.eval (.tmp t) = v at r
    cases r with
    | tup _ cs os hs hrep =>
      have : i < cs.size := by omega
      exact ⟨cs.getD i undef, by simp [execOp, ho, hv, Instr.extract, this, Array.getD_eq_getD_getElem?], (hrep i hi).dup⟩
theorem ok_extract {o : Oper} {q : Q} {t i : Nat} {vs : List LV} (ho : o.op = .extract (.tmp t) i) (hx : ev q.E (.tmp t) = .tup vs) (hi : i < vs.length) :
    OpOk P q o (vs.getD i .any) none { q with E := q.E.set t (.tup (vs.set i (dup (vs.getD i .any)))) } := by
  refine op_val fun fr a c hr => ?_
  obtain ⟨ow, hr⟩ := hr
  have hE : q.E.getD t .any = .tup vs := hx
  have ht : t < q.E.length := by
    rcases Nat.lt_or_ge t q.E.length with h1 | h1
    · exact h1
    · rw [List.getD_eq_getElem?_getD, List.getElem?_eq_none h1] at hE; simp at hE
  have r := hr.env t ht
  rw [hE] at r
  generalize hv : a.tmps.getD t undef = v at r
  generalize hO : ow (.env t) = O at r
  cases r with
  | tup _ cs os hs hrep =>
    have hnd : (flatO vs.length os).Nodup := by rw [← hO]; exact hr.sep.nd _
    obtain ⟨n1, n2⟩ := flatO_nd hnd
    let os' : Nat → List Nat := fun j => if j = i then [] else os j
    have hsub : ∀ g, g ∈ flatO vs.length os' → g ∈ ow (.env t) ∧ g ∉ os i := fun g hg => by
      obtain ⟨j, hj, hgj⟩ := flatO_mem.1 hg
      by_cases e : j = i
      · simp [os', e] at hgj
      · simp only [os', e, if_false] at hgj
        exact ⟨by rw [hO]; exact flatO_mem.2 ⟨j, hj, hgj⟩, n2 j i g hj hi e hgj⟩
    have hsubi : ∀ g, g ∈ os i → g ∈ ow (.env t) := fun g hg => by rw [hO]; exact flatO_mem.2 ⟨i, hi, hg⟩
    have hsup : ∀ k g, g ∈ upd (upd ow (.arg 0) (os i)) (.env t) (flatO vs.length os') k → ((k = .arg 0 ∨ k = .env t) ∧ g ∈ ow (.env t)) ∨ (k ≠ .arg 0 ∧ k ≠ .env t ∧ g ∈ ow k) := fun k g hg => by
      unfold upd at hg
      split at hg
      · rename_i hk; exact .inl ⟨.inr hk, (hsub g hg).1⟩
      · rename_i hk
        split at hg
        · rename_i hk'; exact .inl ⟨.inl hk', hsubi g hg⟩
        · rename_i hk'; exact .inr ⟨hk', hk, hg⟩
    refine ⟨c, cs.getD i undef, ?_, ⟨upd (upd ow (.arg 0) (os i)) (.env t) (flatO vs.length os'), by simpa using hr.len, by simpa using hr.alen, fun t' ht' => ?_, fun t' d' p' hp' => by simpa using hr.al t' d' p' hp', ⟨hr.sto.n, fun id hid => ?_, hr.sto.bd⟩, fun j hj => ?_, rfl, ⟨fun k => ?_, fun k k' g hne hg hg' => ?_⟩, hr.ext, fun k g hg => ?_, hr.df⟩, fun _ _ h => by cases h⟩
    · have : i < cs.size := by omega
      have hv' : a.eval (.tmp t) = .tuple cs := hv
      simp [execOp, ho, hv', Instr.extract, this, Array.getD_eq_getD_getElem?]
    · have ht'' : t' < q.E.length := by simpa using ht'
      by_cases e : t' = t
      · subst e
        rw [upd_same, hv]
        have hset : (q.E.set t' (.tup (vs.set i (dup (vs.getD i .any))))).getD t' .any = .tup (vs.set i (dup (vs.getD i .any))) := by simp [List.getD_eq_getElem?_getD, ht'']
        show Rep c ((q.E.set t' _).getD t' .any) _ _
        rw [hset]
        have := Rep.tup (c := c) (vs.set i (dup (vs.getD i .any))) cs os' (by simp [hs]) (fun j hj => by
          have hj' : j < vs.length := by simpa using hj
          by_cases e : j = i
          · subst e
            have h1 : (vs.set j (dup (vs.getD j .any))).getD j .any = dup (vs.getD j .any) := by simp [List.getD_eq_getElem?_getD, hj']
            rw [h1]
            simp only [os', if_true]
            exact (hrep j hj').dup
          · have h1 : (vs.set i (dup (vs.getD i .any))).getD j .any = vs.getD j .any := by simp [List.getD_eq_getElem?_getD, List.getElem?_set_ne (Ne.symm e)]
            rw [h1]
            simp only [os', e, if_false]
            exact hrep j hj')
        simpa using this
      · rw [upd_other _ _ (by simp [e]), upd_other _ _ (by simp)]
        have hset : (q.E.set t (.tup (vs.set i (dup (vs.getD i .any))))).getD t' .any = q.E.getD t' .any := by simp [List.getD_eq_getElem?_getD, List.getElem?_set_ne (Ne.symm e)]
        show Rep c ((q.E.set t _).getD t' .any) _ _
        rw [hset]
        exact hr.env t' ht''
    · rw [upd_other _ _ (by simp), upd_other _ _ (by simp)]; exact hr.sto.r id hid
    · have : j = 0 := by simp at hj; exact hj
      subst this
      rw [upd_other _ _ (by simp), upd_same]
      exact hrep i hi
    · unfold upd
      split
      · exact flatO_nd_mk (fun j hj => by simp only [os']; split; exact List.nodup_nil; exact n1 j hj) (fun j k g hj hk hne hgj hgk => by
          simp only [os'] at hgj hgk
          split at hgj
          · simp at hgj
          · split at hgk
            · simp at hgk
            · exact n2 j k g hj hk hne hgj hgk)
      · split
        · exact n1 i hi
        · exact hr.sep.nd k
    · rcases hsup k g hg with ⟨h1, h2⟩ | ⟨h1, h1', h2⟩
      · rcases hsup k' g hg' with ⟨h3, h4⟩ | ⟨h3, h3', h4⟩
        · rcases h1 with rfl | rfl
          · rcases h3 with rfl | rfl
            · exact hne rfl
            · rw [upd_other _ _ (by simp), upd_same] at hg
              rw [upd_same] at hg'
              exact (hsub g hg').2 hg
          · rcases h3 with rfl | rfl
            · rw [upd_other _ _ (by simp), upd_same] at hg'
              rw [upd_same] at hg
              exact (hsub g hg).2 hg'
            · exact hne rfl
        · exact hr.sep.dj (.env t) k' g (fun e => h3' e.symm) h2 h4
      · rcases hsup k' g hg' with ⟨h3, h4⟩ | ⟨h3, h3', h4⟩
        · exact hr.sep.dj k (.env t) g h1' h2 h4
        · exact hr.sep.dj k k' g hne h2 h4
    · rcases hsup k g hg with ⟨h1, h2⟩ | ⟨h1, h1', h2⟩
      · exact hr.own _ g h2
      · exact hr.own _ g h2

/-- What a call is handed. -/
def callO (o : Ow) (n : Nat) : Ow := fun k => match k with
  | .arg i => if i < n then o (.arg i) else []
  | .sto id => o (.sto id)
  | .env _ => []
theorem callO_sub (o : Ow) (n : Nat) (k : Key) (g : Nat) (h : g ∈ callO o n k) : g ∈ o k ∧ ∀ t, k ≠ .env t := by
  cases k with
  | arg i => simp only [callO] at h; split at h; exact ⟨h, by simp⟩; simp at h
  | sto id => exact ⟨h, by simp⟩
  | env t => simp [callO] at h

theorem ok_call {o : Oper} {q : Q} {x : Operand} {as : Array Operand} {ts : Array TypeId} {f : FuncId} {cs : List LV} {S' : List LV} {r : LV} (ho : o.op = .call { callee := .value x, args := as, argTypes := ts })
    (hx : ev q.E x = .fn f cs) (hen : Enters P f) (hc : LCalls P f ((takes as.toList q).1 ++ cs) q.S r S') : OpOk P q o r none { (takes as.toList q).2 with S := S' } := by
  intro fr a c hr next Qp hn
  obtain ⟨ow, hr⟩ := hr
  obtain ⟨Of, rf⟩ := hr.evo x
  rw [hx] at rf
  generalize hv : a.eval x = v at rf
  cases rf with
  | fn _ _ ccs hcs hcap =>
    obtain ⟨o1, h1⟩ := hr.takes as.toList
    simp only [List.nil_append] at h1
    have hlen : (takes as.toList q).1.length = as.toList.length := by have := h1.flyl; simpa using this.symm
    have hS : (takes as.toList q).2.S = q.S := by
      generalize as.toList = l
      have : ∀ (l : List Operand) (q : Q), (takes l q).2.S = q.S := by
        intro l
        induction l with
        | nil => intro q; rfl
        | cons x l ih => intro q; simp only [takes]; rw [ih]; cases x <;> rfl
      exact this l q
    have hrun : (execOp a.eval o).run P c.w = .ok (.enter f (as.map a.eval ++ ccs)) c.w := by
      simp [execOp, ho, resolve, hv, Deferred.ofValue, invoke]
      exact hen _ _
    have hvs : (as.toList.map a.eval ++ ccs.toList).toArray = as.map a.eval ++ ccs := by
      apply Array.ext'; simp
    have hcall := hc c (as.toList.map a.eval ++ ccs.toList) (callO o1 as.toList.length) (by simp [hlen, hcs]) (fun i hi => by
        by_cases h : i < as.toList.length
        · have h' : i < (takes as.toList q).1.length := by rw [hlen]; exact h
          rw [getD_app_lt _ _ _ _ h', getD_app_lt _ _ _ _ (by simpa using h)]
          simp only [callO, h, if_true]
          exact h1.fly i h'
        · have e1 : ((takes as.toList q).1 ++ cs).getD i .any = cs.getD (i - as.toList.length) .any := by
            simp only [List.getD_eq_getElem?_getD]
            rw [List.getElem?_append_right (by rw [hlen]; omega), hlen]
          have e2 : (as.toList.map a.eval ++ ccs.toList).getD i undef = ccs.getD (i - as.toList.length) undef := by
            simp only [List.getD_eq_getElem?_getD, Array.getD_eq_getD_getElem?]
            rw [List.getElem?_append_right (by simp; simpa using h)]
            simp
          rw [e1, e2]
          simp only [callO, h, if_false]
          refine hcap _ ?_
          rw [List.length_append, hlen] at hi; omega) ⟨by rw [← hS]; exact h1.sto.n, fun id hid => by rw [← hS]; exact h1.sto.r id (by rw [hS]; exact hid), h1.sto.bd⟩
      ⟨fun k => by
        cases k with
        | arg i => simp only [callO]; split; exact h1.sep.nd _; exact List.nodup_nil
        | sto id => exact h1.sep.nd _
        | env t => exact List.nodup_nil, fun k k' g hne hg hg' => h1.sep.dj k k' g hne (callO_sub _ _ _ _ hg).1 (callO_sub _ _ _ _ hg').1⟩ (fun k g hg => (h1.own k g (callO_sub _ _ _ _ hg).1).1)
    unfold Oper.wp
    rw [hrun]
    rw [hvs] at hcall
    refine Calls.mono hcall ?_
    rintro e w' ⟨c', v', o', rfl, rfl, hext, hrep, hsto, hsep, hown, henv⟩
    refine hn c' v' ?_ (fun _ _ h => by cases h)
    have hM : ∀ t g, g ∈ o1 (.env t) → ¬ ∃ k, g ∈ callO o1 as.toList.length k := fun t g hg ⟨k, hk⟩ => by
      obtain ⟨hk1, hk2⟩ := callO_sub _ _ _ _ hk
      exact h1.sep.dj (.env t) k g (fun e => hk2 t e.symm) hg hk1
    let o2 : Ow := fun k => match k with
      | .env t => o1 (.env t)
      | .sto id => o' (.sto id)
      | .arg i => if i = 0 then o' (.arg 0) else []
    have h2 : ∀ k g, g ∈ o2 k → (∃ t, k = .env t ∧ g ∈ o1 (.env t)) ∨ ((∀ t, k ≠ .env t) ∧ g ∈ o' k) := fun k g hg => by
      cases k with
      | env t => exact .inl ⟨t, rfl, hg⟩
      | sto id => exact .inr ⟨by simp, hg⟩
      | arg i =>
        simp only [o2] at hg
        split at hg
        · rename_i e; subst e; exact .inr ⟨by simp, hg⟩
        · simp at hg
    have hnew : ∀ t g k, g ∈ o1 (.env t) → g ∈ o' k → False := fun t g k hg hg' => by
      rcases (hown k g hg').2 with h | h
      · exact hM t g hg h
      · have := (h1.own (.env t) g hg).1; omega
    refine ⟨o2, h1.len, h1.alen, fun t ht => (h1.env t ht).ext hext (fun g hg => hM t g hg), h1.al, ⟨hsto.n, fun id hid => hsto.r id hid, hsto.bd⟩, fun i hi => ?_, rfl, ⟨fun k => ?_, fun k k' g hne hg hg' => ?_⟩, ?_, fun k g hg => ?_, h1.df⟩
    · have : i = 0 := by simp at hi; exact hi
      subst this; exact hrep
    · cases k with
      | env t => exact h1.sep.nd _
      | sto id => exact hsep.nd _
      | arg i => simp only [o2]; split; exact hsep.nd _; exact List.nodup_nil
    · rcases h2 k g hg with ⟨t, rfl, h3⟩ | ⟨h3, h3'⟩
      · rcases h2 k' g hg' with ⟨t', rfl, h4⟩ | ⟨h4, h4'⟩
        · exact h1.sep.dj _ _ g hne h3 h4
        · exact hnew t g k' h3 h4'
      · rcases h2 k' g hg' with ⟨t', rfl, h4⟩ | ⟨h4, h4'⟩
        · exact hnew t' g k h4 h3'
        · exact hsep.dj k k' g hne h3' h4'
    · refine h1.ext.trans hext (fun b hb ⟨k, hk⟩ => ?_)
      rcases (h1.own k b (callO_sub _ _ _ _ hk).1).2 with h | h
      · exact h
      · omega
    · rcases h2 k g hg with ⟨t, rfl, h3⟩ | ⟨h3, h3'⟩
      · exact ⟨Nat.lt_of_lt_of_le (h1.own _ g h3).1 hext.size, (h1.own _ g h3).2⟩
      · refine ⟨(hown k g h3').1, ?_⟩
        rcases (hown k g h3').2 with ⟨k', hk'⟩ | h
        · exact (h1.own k' g (callO_sub _ _ _ _ hk').1).2
        · exact .inr (Nat.le_trans h1.ext.size h)
end
end Go.Lm
