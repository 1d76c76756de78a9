/- One operation: stores, fields of values, structs that are built. -/
import Derived.Test.YtnapepffpbbkoaaGreatDoorLmE4
namespace Go.Lm
section
variable {R : Type} {P : Program} {T : Nat → Option TI} {C : Nat → Hd R}

theorem setFrom_len : ∀ (vs xs : List LV) (o : Nat), (setFrom xs o vs).length = xs.length
  | [], xs, o => rfl
  | v :: vs, xs, o => by simp [setFrom, setFrom_len vs]
theorem setFrom_get : ∀ (vs xs : List LV) (o i : Nat), i < xs.length → (setFrom xs o vs).getD i .any = if o ≤ i ∧ i < o + vs.length then vs.getD (i - o) .any else xs.getD i .any
  | [], xs, o, i, hi => by rw [if_neg (fun h => by simp at h; omega)]; rfl
  | v :: vs, xs, o, i, hi => by
    simp only [setFrom]
    rw [setFrom_get vs (xs.set o v) (o + 1) i (by simpa using hi)]
    by_cases h1 : i = o
    · subst h1
      rw [if_neg (by omega), if_pos (by simp)]
      simp [List.getD_eq_getElem?_getD, hi]
    · have hset : (xs.set o v).getD i .any = xs.getD i .any := by
        simp [List.getD_eq_getElem?_getD, List.getElem?_set_ne (Ne.symm h1)]
      by_cases h2 : o + 1 ≤ i ∧ i < o + 1 + vs.length
      · rw [if_pos h2, if_pos (by simp; omega)]
        have : i - o = (i - (o + 1)) + 1 := by omega
        rw [this, List.getD_cons_succ]
      · rw [if_neg h2, if_neg (by simp; omega), hset]
theorem getD_splice (cur : List Value) (vs : List Value) (o i : Nat) (h : o + vs.length ≤ cur.length) :
    ((cur.take o ++ vs ++ cur.drop (o + vs.length)).toArray).getD i undef = if o ≤ i ∧ i < o + vs.length then vs.getD (i - o) undef else cur.getD i undef := by
  simp only [Array.getD_eq_getD_getElem?, List.getElem?_toArray, List.getD_eq_getElem?_getD]
  have ht : (cur.take o).length = o := by simp; omega
  by_cases h1 : i < o
  · rw [List.append_assoc, List.getElem?_append_left (by omega), if_neg (by omega), List.getElem?_take, if_pos h1]
  · by_cases h2 : i < o + vs.length
    · rw [if_pos ⟨by omega, h2⟩, List.getElem?_append_left (by simp; omega), List.getElem?_append_right (by omega), ht]
    · rw [if_neg (by omega), List.getElem?_append_right (by simp; omega), List.getElem?_drop]
      congr 2
      simp; omega

theorem op_skip {q q' : Q} {o : Oper}
    (h : ∀ (fr : Fr) (a : Act) (c : Cx), Rel fr q a c → ∃ c', (execOp a.eval o).run P c.w = .ok .skip c'.w ∧ Rel fr q' a c') : OpOk P q o .any none q' := by
  intro fr a c hr next Qp hn
  obtain ⟨c', h1, h2⟩ := h fr a c hr
  unfold Oper.wp
  rw [h1]
  obtain ⟨ow, h2⟩ := h2
  exact hn c' undef (h2.fly1 (.any _)) (fun _ _ h => by cases h)

theorem ok_store {o : Oper} {q : Q} {t : TypeId} {ti : TI} {x y : Operand} {d p : Nat} (ho : o.op = .store t x y) (ht : tiOf P t = some ti) (ha : q.addr x = some (d, p))
    (hb : p + ti.lk.length ≤ (boxAt q.E d).length) (hpos : 0 < ti.lk.length) (hlen : (cellsOf (dup (ev q.E y))).length = ti.lk.length) (h1 : (cellsOf (dup (ev q.E y))).all one = true) :
    OpOk P q o .any none { q with E := q.E.set d (.lbox (setFrom (boxAt q.E d) p (cellsOf (dup (ev q.E y))))) } := by
  obtain ⟨i, dd, hi, hd, hkd, hlk, _⟩ := tiOf_und ht
  refine op_skip fun fr a c hr => ?_
  obtain ⟨_, g', e1, e2⟩ := hr.addr ha
  obtain ⟨ow, hr⟩ := hr
  obtain ⟨hdl, hbx, g, cur, e, hv, hO, hs, hh, hI, ho1, hrep⟩ := Rel.boxR (d := d) hr (by omega)
  rw [e1] at hv
  simp at hv
  subst hv
  have hyd := hr.evd y
  obtain ⟨hys, hyr, hy1⟩ := rep_cells hyd h1
  generalize hvals : cellsOf (dup (ev q.E y)) = vals at *
  generalize hbox : boxAt q.E d = box at *
  have hcl : (a.eval y).cells.toList.length = vals.length := by simpa using hys
  have hst := run_storeCells_at P g' p e (a.eval y).cells.toList 0 cur c.w hh (by rw [hcl]; omega) (fun v hv => by
    obtain ⟨j, hj, rfl⟩ := List.mem_iff_getElem.1 hv
    have := hy1 j (by simpa using hj)
    simpa [Array.getD_eq_getD_getElem?, show j < (a.eval y).cells.size from by simpa using hj] using this)
  simp only [Nat.add_zero] at hst
  generalize hnew : (List.take p cur.toList ++ (a.eval y).cells.toList ++ List.drop (p + (a.eval y).cells.toList.length) cur.toList).toArray = new at hst
  have hnews : new.size = cur.size := by subst hnew; simp; simp at hcl; omega
  have hnget : ∀ j, new.getD j undef = if p ≤ j ∧ j < p + vals.length then (a.eval y).cells.getD (j - p) undef else cur.getD j undef := fun j => by
    subst hnew
    rw [getD_splice _ _ _ _ (by simp; simp at hcl; omega), hcl]
    congr 1
    · simp [List.getD_eq_getElem?_getD, Array.getD_eq_getD_getElem?]
    · simp [List.getD_eq_getElem?_getD, Array.getD_eq_getD_getElem?]
  have hother : ∀ b, b ≠ g' → (c.w.setRow g' new).heap[b]? = c.w.heap[b]? := fun b hb => setRow_other c.w g' b new hb
  have hsize : (c.w.setRow g' new).heap.size = c.w.heap.size := by simp [World.setRow]
  have hext : Ext c { c with w := c.w.setRow g' new } (fun b => b = g') := ⟨Nat.le_refl _, fun _ _ => rfl, fun _ _ h => h, fun b o hb => World.cell?_of_block (w := c.w) (hother b (fun e => by subst e; exact hI o hb)), by show _ ≤ (c.w.setRow g' new).heap.size; omega,
    fun b _ hb => hother b hb, fun _ _ _ _ h => h, rfl, rfl, rfl⟩
  refine ⟨{ c with w := c.w.setRow g' new }, ?_, ow, by simpa using hr.len, by simpa using hr.alen, fun t' ht' => ?_, fun t' d' p' hp' => by simpa using hr.al t' d' p' hp', ⟨hr.sto.n, fun id hid => ?_, fun b p hb => by show b < (c.w.setRow g' new).heap.size; rw [hsize]; exact hr.sto.bd b p hb⟩, fun i hi => absurd hi (by simp), rfl, hr.sep, ?_, fun k g hg => ⟨by show g < (c.w.setRow g' new).heap.size; rw [hsize]; exact (hr.own k g hg).1, (hr.own k g hg).2⟩, hr.df⟩
  · have hsz : (a.eval y).cells.size = i.size := by rw [hys, hlen, hlk]
    simp [execOp, ho, Instr.storeAt, Instr.sureAddr, storeVar, e2, sizeOf, typeInfo, hi, hsz, hst]
  · have ht'' : t' < q.E.length := by simpa using ht'
    by_cases e : t' = d
    · subst e
      have hset : (q.E.set t' (.lbox (setFrom box p vals))).getD t' .any = .lbox (setFrom box p vals) := by simp [List.getD_eq_getElem?_getD, ht'']
      show Rep _ ((q.E.set t' _).getD t' .any) _ _
      rw [hset, e1, hO]
      refine .lbox _ g' new _ (by rw [hnews, hs, setFrom_len]) (setRow_heap c.w g' cur new _ (0, 0) hh) hI (fun j hj => ?_) (fun j hj => ?_)
      · rw [hnget]
        split
        · exact hy1 _ (by rw [hys]; omega)
        · exact ho1 j (by rw [← hnews]; exact hj)
      · rw [setFrom_len] at hj
        rw [setFrom_get _ _ _ _ hj, hnget]
        split
        · exact (hyr _ (by omega)).ext hext (fun g hg => by simp at hg)
        · exact (hrep j hj).ext hext (fun g hg => by simp at hg)
    · have hset : (q.E.set d (.lbox (setFrom box p vals))).getD t' .any = q.E.getD t' .any := by simp [List.getD_eq_getElem?_getD, List.getElem?_set_ne (Ne.symm e)]
      show Rep _ ((q.E.set d _).getD t' .any) _ _
      rw [hset]
      exact (hr.env t' ht'').ext hext (fun g hg e' => by
        subst e'
        exact hr.sep.dj (.env t') (.env d) g (by simp [e]) hg (by rw [hO]; simp))
  · exact (hr.sto.r id hid).ext hext (fun g hg e' => by
      subst e'
      exact hr.sep.dj (.sto id) (.env d) g (by simp) hg (by rw [hO]; simp))
  · refine hr.ext.trans hext (fun b hb hm => ?_)
    subst hm
    rcases (hr.own (.env d) b (by rw [hO]; simp)).2 with h2 | h2
    · exact h2
    · omega

theorem ok_field {o : Oper} {q : Q} {t : TypeId} {ti fti : TI} {x : Operand} {i fo n : Nat} {ft : TypeId} {xs : List LV} (ho : o.op = .field t x i) (ht : tiOf P t = some ti) (hf : ti.fs[i]? = some (fo, n, ft)) (hft : tiOf P ft = some fti)
    (hx : ev q.E x = .agg xs) (hb : fo + fti.lk.length ≤ xs.length) (hpos : 0 < fti.lk.length) (hl : isAggK fti.kd = false → fti.lk.length = 1) : OpOk P q o (part fti xs fo) none q := by
  obtain ⟨fs, f, hd, hfi, hoff, hn, hfty, hn0⟩ := tiOf_fs ht hf
  obtain ⟨j, dd, hi, hdd, hkd, hlk, _⟩ := tiOf_und hft
  refine op_pure fun fr a c hr => ?_
  obtain ⟨O, r⟩ := hr.evr x
  rw [hx] at r
  generalize hv : a.eval x = z at r
  cases r with
  | agg _ cs hs hrep =>
    subst hfty
    unfold part
    cases hk : isAggK fti.kd with
    | true =>
      refine ⟨.agg (cs.extract fo (fo + j.size)), ?_, ?_⟩
      · have h2 : (isAgg f.type).run P c.w = .ok true c.w := by
          rcases isAggK_of (by rw [← hkd]; exact hk) with ⟨fs, rfl⟩ | ⟨n, e, rfl⟩ <;> simp [isAgg, run_underlying hdd]
        simp [execOp, ho, Instr.field, run_underlying hd, hfi, hv, asAgg, Go.part, h2, hoff, sizeOf, typeInfo, hi]
      · have hlen : ((xs.drop fo).take fti.lk.length).length = fti.lk.length := by simp; omega
        refine .agg _ _ (by rw [hlen]; simp; omega) (fun p hp => ?_)
        rw [hlen] at hp
        rw [getD_part _ _ _ _ hp]
        have : (cs.extract fo (fo + j.size)).getD p undef = cs.getD (fo + p) undef := by
          simp only [Array.getD_eq_getD_getElem?, Array.getElem?_extract]
          rw [if_pos (by omega)]
        rw [this]
        exact hrep _ (by omega)
    | false =>
      have hl1 := hl hk
      refine ⟨cs.getD fo undef, ?_, hrep fo (by omega)⟩
      have h2 : (isAgg f.type).run P c.w = .ok false c.w := by
        rw [hkd] at hk
        cases dd <;> simp [kdOf, isAggK] at hk <;> simp [isAgg, run_underlying hdd]
      have h3 : fo < cs.size := by omega
      simp [execOp, ho, Instr.field, run_underlying hd, hfi, hv, asAgg, Go.part, h2, hoff, h3, Array.getD_eq_getD_getElem?]
end
end Go.Lm
