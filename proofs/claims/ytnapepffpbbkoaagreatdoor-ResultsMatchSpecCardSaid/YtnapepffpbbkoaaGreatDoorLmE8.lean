/- One operation: slices that are built, components, bytes and strings. -/
import Derived.Test.YtnapepffpbbkoaaGreatDoorLmE7
namespace Go.Lm
section
variable {R : Type} {P : Program} {T : Nat → Option TI} {C : Nat → Hd R}

/-- A new block, whatever made it. -/
theorem RelO.fresh' {fr : Fr} {q : Q} {a : Act} {c : Cx} {xs : List LV} {vs : List Value} {o : Ow} (h : RelO fr q a c xs vs o) (w' : World) (hsame : ∀ b, b < c.w.heap.size → w'.heap[b]? = c.w.heap[b]?) (hsz : w'.heap.size = c.w.heap.size + 1)
    (hos : w'.os = c.w.os) (htp : w'.tape = c.w.tape) (hout : w'.output = c.w.output) (J : Nat → Prop)
    {x : LV} {v : Value} (hr : ∀ c' : Cx, c'.w = w' → Ext c c' (fun _ => False) → (∀ p, c'.I c.w.heap.size p ↔ J p) → (∃ O, (O = [] ∨ O = [c.w.heap.size]) ∧ Rep c' x v O)) :
    ∃ c' o', c'.w = w' ∧ RelO fr q a c' (xs ++ [x]) (vs ++ [v]) o' := by
  let c' : Cx := { c with I := fun b p => c.I b p ∨ (b = c.w.heap.size ∧ J p), w := w' }
  have hext : Ext c c' (fun _ => False) := ⟨Nat.le_refl _, fun _ _ => rfl, fun b p hp => .inl hp, fun b p hp => World.cell?_of_block (w := c.w) (hsame b (h.sto.bd b p hp)), by show _ ≤ w'.heap.size; omega, fun b hb _ => hsame b hb,
    fun b p hb _ hp => by
      rcases hp with hp | hp
      · exact hp
      · omega, hos, htp, hout⟩
  have hI : ∀ p, c'.I c.w.heap.size p ↔ J p := fun p => ⟨fun hp => by
    rcases hp with hp | hp
    · have := h.sto.bd _ _ hp; omega
    · exact hp.2, fun hp => .inr ⟨rfl, hp⟩⟩
  obtain ⟨O, hO, hrep⟩ := hr c' rfl hext hI
  have hmove := h.move (c' := c') hext (fun _ hf => hf.elim) rfl (fun b p hp => by
    show b < w'.heap.size
    rcases hp with hp | hp
    · have := h.sto.bd b p hp; omega
    · omega)
  have hnot : ∀ k, c.w.heap.size ∉ o k := fun k hk => by have := (h.own k _ hk).1; omega
  refine ⟨c', upd o (.arg xs.length) O, rfl, hmove.len, hmove.alen, fun t ht => ?_, hmove.al, ⟨hmove.sto.n, fun id hid => ?_, hmove.sto.bd⟩, fun i hi => ?_, by simp [hmove.flyl], ?_, hmove.ext, fun k g hg => ?_, hmove.df⟩
  · rw [upd_other _ _ (by simp)]; exact hmove.env t ht
  · rw [upd_other _ _ (by simp)]; exact hmove.sto.r id hid
  · by_cases e : i = xs.length
    · subst e; rw [upd_same, ← hmove.flyl]; simpa [List.getD_eq_getElem?_getD, hmove.flyl] using hrep
    · have hi' : i < xs.length := by simp at hi; omega
      rw [upd_other _ _ (by simp [e])]
      have := hmove.fly i hi'
      rwa [getD_app_lt _ _ _ _ hi', getD_app_lt _ _ _ _ (by rw [hmove.flyl]; exact hi')]
  · refine ⟨fun k => ?_, fun k k' g hne hg => ?_⟩
    · unfold upd; split
      · rcases hO with rfl | rfl <;> simp
      · exact h.sep.nd k
    · unfold upd at hg ⊢
      split at hg
      · rename_i hk
        split
        · rename_i hk'; exact absurd (hk.trans hk'.symm) hne
        · rcases hO with rfl | rfl
          · simp at hg
          · simp at hg; subst hg; exact hnot k'
      · split
        · rcases hO with rfl | rfl
          · simp
          · intro hm; simp at hm; subst hm; exact hnot k hg
        · exact h.sep.dj k k' g hne hg
  · unfold upd at hg
    split at hg
    · rcases hO with rfl | rfl
      · simp at hg
      · simp at hg; subst hg; exact ⟨by show _ < w'.heap.size; omega, .inr h.ext.size⟩
    · exact hmove.own k g hg

/-- The elements of a slice that is built, one behind the other. -/
theorem fillS {c : Cx} (sz : Nat) : ∀ (ps : List (Nat × LV × Value)) (k : Nat) (cells : Array Value) (done : List LV), done.length = k → (∀ j p, ps[j]? = some p → p.1 = k + j) → (∀ p, p ∈ ps → Rep c p.2.1 p.2.2 [] ∧ (cellsOf p.2.1).length = sz ∧ (cellsOf p.2.1).all one = true) →
    (k + ps.length) * sz ≤ cells.size → (∀ i, i < cells.size → (cells.getD i undef).oneCell' = true) → (∀ p, p < k * sz → Rep c (leaf (done.getD (p / sz) .any) (p % sz)) (cells.getD p undef) []) →
    ∃ cells', Instr.fill (fun i => some (i * sz, sz)) cells (ps.map fun p => (p.1, p.2.2)) = some cells' ∧ cells'.size = cells.size ∧ (∀ i, i < cells'.size → (cells'.getD i undef).oneCell' = true) ∧
      ∀ p, p < (k + ps.length) * sz → Rep c (leaf ((done ++ ps.map (·.2.1)).getD (p / sz) .any) (p % sz)) (cells'.getD p undef) []
  | [], k, cells, done, hk, hi, hp, hb, ho, hr => ⟨cells, rfl, rfl, ho, fun p h => by simpa using hr p (by simpa using h)⟩
  | (i, x, v) :: ps, k, cells, done, hk, hi, hp, hb, ho, hr => by
    have hi0 : i = k := by simpa using hi 0 (i, x, v) rfl
    subst hi0
    have hx : Rep c x v [] := (hp (i, x, v) (by simp)).1
    have hxl : (cellsOf x).length = sz := (hp (i, x, v) (by simp)).2.1
    have hx1 : (cellsOf x).all one = true := (hp (i, x, v) (by simp)).2.2
    obtain ⟨hus, hur, hu1⟩ := rep_cells hx hx1
    simp only [List.length_cons] at hb
    have hle : i * sz + sz ≤ cells.size := by
      refine Nat.le_trans ?_ hb
      rw [← Nat.succ_mul]; exact Nat.mul_le_mul_right _ (by omega)
    generalize hc1 : v.cells.zipIdx.foldl (fun cs (p : Value × Nat) => cs.setIfInBounds (i * sz + p.2) p.1) cells = cells1
    have e : cells1 = (v.cells.toList.zipIdx 0).foldl (fun cs (p : Value × Nat) => cs.setIfInBounds (i * sz + p.2) p.1) cells := by
      rw [← hc1, ← Array.foldl_toList]; simp
    have hg : ∀ j, cells1.getD j undef = if i * sz ≤ j ∧ j < i * sz + sz then v.cells.getD (j - i * sz) undef else cells.getD j undef := fun j => by
      rw [e, foldl_get _ _ 0 _ _ (by simp; omega)]
      simp only [Nat.add_zero, Array.length_toList, hus, hxl]
      congr 1
      simp [List.getD_eq_getElem?_getD, Array.getD_eq_getD_getElem?]
    have hsz1 : cells1.size = cells.size := by rw [e]; exact foldl_size _ _ _
    obtain ⟨cells', h1, h2, h3, h4⟩ := fillS sz ps (i + 1) cells1 (done ++ [x]) (by simp [hk]) (fun j p hj => by have := hi (j + 1) p (by simpa using hj); omega) (fun p hp' => hp p (by simp [hp'])) (by rw [hsz1]; refine Nat.le_trans (Nat.le_of_eq ?_) hb; congr 1; omega)
      (fun j hj => by
        rw [hg]
        split
        · exact hu1 _ (by omega)
        · exact ho j (by omega)) (fun p hp' => by
        have hsz0 : 0 < sz := Nat.pos_of_ne_zero fun e => by subst e; simp at hp'
        rw [hg, getD_app3, hk]
        by_cases h : p < i * sz
        · rw [if_pos (Nat.div_lt_of_lt_mul (by rw [Nat.mul_comm]; exact h)), if_neg (by omega)]
          exact hr p h
        · have hp2 : p < i * sz + sz := by rw [Nat.succ_mul] at hp'; omega
          obtain ⟨m, rfl⟩ : ∃ m, p = m + i * sz := ⟨p - i * sz, by omega⟩
          have hm : m < sz := by omega
          rw [Nat.add_mul_div_right _ _ hsz0, Nat.div_eq_of_lt hm, Nat.zero_add, if_neg (Nat.lt_irrefl _), if_pos ⟨by omega, by omega⟩, Nat.add_mul_mod_self_right, Nat.mod_eq_of_lt hm, Nat.sub_self, Nat.add_sub_cancel]
          simp only [List.getD_cons_zero]
          have : leaf x m = (cellsOf x).getD m .any := by
            cases x with
            | agg ys => rfl
            | _ => cases m with
              | zero => rfl
              | succ m => simp [cellsOf] at hxl; omega
          rw [this]
          exact hur m (by omega))
    refine ⟨cells', ?_, by rw [h2, hsz1], h3, fun p hp' => ?_⟩
    · simp only [List.map_cons, Instr.fill]
      rw [if_neg (by simp; omega), hc1]
      exact h1
    · have := h4 p (by simp only [List.length_cons] at hp'; refine Nat.lt_of_lt_of_le hp' (Nat.le_of_eq ?_); congr 1; omega)
      simpa using this

theorem partsInOrder_get : ∀ (ps : List (Nat × Operand)) (n j : Nat) (p : Nat × Operand), partsInOrder n ps = true → ps[j]? = some p → p.1 = n + j
  | (i, x) :: ps, n, 0, p, h, hj => by
    simp only [partsInOrder, Bool.and_eq_true] at h
    simp at hj; subst hj
    exact Nat.eq_of_beq_eq_true h.1
  | (i, x) :: ps, n, j + 1, p, h, hj => by
    simp only [partsInOrder, Bool.and_eq_true] at h
    have := partsInOrder_get ps (n + 1) j p h.2 (by simpa using hj)
    omega

theorem ok_buildSlice {o : Oper} {q : Q} {t e : TypeId} {len sz : Nat} {i : TypeInfo} {z : Value} {ps : Array (Nat × Operand)} (ho : o.op = .buildSlice t len ps) (hd : P.underlying t = some (.slice e)) (hi : P.info? e = some i) (hsz : i.size = sz)
    (hz : i.zero = some z) (hzs : z.cells.size = i.size) (hzo : ∀ p, p < z.cells.size → (z.cells.getD p undef).oneCell' = true) (h1 : partsInOrder 0 ps.toList = true) (h2 : ps.toList.length = len) (h3 : len * sz ≤ 16777216) (hmx : len ≤ 9223372036854775807)
    (h4 : ∀ p, p ∈ ps.toList → (cellsOf (dup (ev q.E p.2))).length = sz ∧ (cellsOf (dup (ev q.E p.2))).all one = true) : OpOk P q o (.own e sz (ps.toList.map fun p => dup (ev q.E p.2))) none q := by
  refine op_val fun fr a c hr => ?_
  obtain ⟨ow, hr⟩ := hr
  subst hsz
  generalize hzero : (if len * i.size = 0 then #[] else z.cells) = zc
  generalize hcells : (Array.range (len * i.size)).map (zc[· % zc.size]!) = cells
  have hcs : cells.size = len * i.size := by subst hcells; simp
  have hco : ∀ p, p < cells.size → (cells.getD p undef).oneCell' = true := fun p hp => by
    have hp' : p < len * i.size := by omega
    have hzc : zc = z.cells := by rw [← hzero, if_neg (by omega)]
    have hz0 : 0 < z.cells.size := by rw [hzs]; exact Nat.pos_of_ne_zero fun e => by rw [e] at hp'; simp at hp'
    subst hzc
    have hm := Nat.mod_lt p hz0
    have := hzo _ hm
    subst hcells
    simpa [hp', hm, Array.getD_eq_getD_getElem?] using this
  obtain ⟨cells', f1, f2, f3, f4⟩ := fillS (c := c) i.size (ps.toList.map fun p => (p.1, dup (ev q.E p.2), a.eval p.2)) 0 cells [] rfl (fun j p hj => by
      rw [List.getElem?_map] at hj
      cases hq : ps.toList[j]? with
      | none => rw [hq] at hj; simp at hj
      | some p' => rw [hq] at hj; simp at hj; subst hj; exact partsInOrder_get _ 0 j p' h1 hq) (fun p hp => by
      obtain ⟨p', hp', rfl⟩ := List.mem_map.1 hp
      exact ⟨hr.evd p'.2, h4 p' hp'⟩) (by rw [hcs, List.length_map, h2, Nat.zero_add]; exact Nat.le_refl _) hco (fun p hp => by simp at hp)
  simp only [List.nil_append, List.map_map, Nat.zero_add, List.length_map, h2] at f1 f4
  have hlen : (ps.toList.map fun p => dup (ev q.E p.2)).length = len := by rw [List.length_map, h2]
  obtain ⟨c', o', hw, hrel⟩ := hr.fresh' (c.w.alloc (.cells cells' e)) (fun b hb => by
      show (c.w.heap.push _)[b]? = _
      rw [Array.getElem?_push, if_neg (by omega)]) (by show (c.w.heap.push _).size = _; simp) rfl rfl rfl (fun p => p < len * i.size) (x := .own e i.size (ps.toList.map fun p => dup (ev q.E p.2))) (v := .slice (some ⟨c.w.heap.size, 0, none⟩) len len)
    (fun c' hw hext hI => ⟨[c.w.heap.size], .inr rfl, by
      have := Rep.own (c := c') e i.size c.w.heap.size len (ps.toList.map fun p => dup (ev q.E p.2)) cells' (by rw [hlen]; exact Nat.le_refl _) hmx (by rw [hw]; exact heap_alloc_new _ _) (by rw [f2, hcs]) (fun p => by rw [hlen]; exact hI p) f3 (fun p hp => by
        rw [hlen] at hp
        exact (f4 p hp).ext hext (fun g hg => by simp at hg))
      rw [hlen] at this
      exact this⟩)
  refine ⟨c', _, ?_, ⟨o', hrel⟩, fun _ _ h => by cases h⟩
  rw [hw]
  have f1' : Instr.fill (fun j => some (j * i.size, i.size)) cells (ps.toList.map fun p => (p.1, a.eval p.2)) = some cells' := f1
  have h24 : ¬ (16777216 < len * i.size) := by omega
  have hbs : (Instr.buildSlice t len (ps.map fun p => (p.1, a.eval p.2))).run P c.w = .ok (.slice (some ⟨c.w.heap.size, 0, none⟩) len len) (c.w.alloc (.cells cells' e)) := by
    unfold Instr.buildSlice
    simp only [Sem.run_bind, run_underlying hd, Result.andThen_ok, sizeOf, typeInfo, run_program, hi, Sem.run_pure, h24, if_false, gt_iff_lt]
    by_cases h0 : len * i.size = 0
    · rw [if_pos h0] at hzero ⊢
      subst hzero
      simp only [Sem.run_bind, Sem.run_pure, Result.andThen_ok, hcells, Array.toList_map, f1']
      simp [newRow]
    · rw [if_neg h0] at hzero ⊢
      subst hzero
      simp only [Sem.run_bind, zeroValue, typeInfo, run_program, Result.andThen_ok, hi, Sem.run_pure, hz, hcells, Array.toList_map, f1']
      simp [newRow]
  simp [execOp, ho, hbs]
end
end Go.Lm
