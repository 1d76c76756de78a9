/- One operation: new variables, stores, whole values. -/
import Derived.Test.YtnapepffpbbkoaaGreatDoorLmE3
import Derived.Laws.CopyRow
import Derived.Laws.Build
namespace Go.Lm
section
variable {R : Type} {P : Program} {T : Nat → Option TI} {C : Nat → Hd R}

theorem rep_cells {c : Cx} {x : LV} {v : Value} (h : Rep c x v []) (h1 : (cellsOf x).all one = true) :
    v.cells.size = (cellsOf x).length ∧ (∀ i, i < (cellsOf x).length → Rep c ((cellsOf x).getD i .any) (v.cells.getD i undef) []) ∧ ∀ i, i < v.cells.size → (v.cells.getD i undef).oneCell' = true := by
  have key : ∀ {x : LV} {v : Value}, Rep c x v [] → one x = true → v.cells = #[v] := fun {x v} r h => by
    have := r.one h
    cases v <;> simp [Value.oneCell'] at this <;> rfl
  have hcase : (∃ xs, x = .agg xs) ∨ cellsOf x = [x] := by cases x <;> simp [cellsOf]
  rcases hcase with ⟨xs, rfl⟩ | hc
  · cases h with
    | agg _ cs hs hr =>
      refine ⟨hs, hr, fun i hi => ?_⟩
      have hi' : i < xs.length := by rw [← hs]; exact hi
      refine (hr i hi').one ?_
      have := List.all_eq_true.1 h1 (xs[i]) (List.getElem_mem hi')
      simpa [List.getD_eq_getElem?_getD, hi'] using this
  · rw [hc] at h1 ⊢
    have hx : one x = true := by simpa using h1
    rw [key h hx]
    refine ⟨rfl, fun i hi => ?_, fun i hi => ?_⟩
    · have : i = 0 := by simp at hi; exact hi
      subst this; simpa [Array.getD_eq_getD_getElem?] using h
    · have : i = 0 := by simp at hi; exact hi
      subst this; simpa [Array.getD_eq_getD_getElem?] using h.one hx

theorem run_newVar {w : World} {t : TypeId} {v : Value} : (newVar t v).run P w = .ok ⟨w.heap.size, 0, none⟩ (w.alloc (.cells v.cells t)) := by
  simp [newVar, newRow]
theorem rep_newbox {c' : Cx} {w : World} {xs : List LV} {cells : Array Value} {e : TypeId} (hw : c'.w = w.alloc (.cells cells e)) (hI : ∀ p, ¬ c'.I w.heap.size p) (hs : cells.size = xs.length)
    (h1 : ∀ p, p < cells.size → (cells.getD p undef).oneCell' = true) (hr : ∀ i, i < xs.length → Rep c' (xs.getD i .any) (cells.getD i undef) []) : Rep c' (.lbox xs) (.pointer (some ⟨w.heap.size, 0, none⟩)) [w.heap.size] :=
  .lbox xs _ cells e hs (by rw [hw]; exact heap_alloc_new _ _) hI h1 hr

theorem ok_alloc {o : Oper} {q : Q} {t : TypeId} {ti : TI} (ho : o.op = .alloc t) (ht : tiOf P t = some ti) : OpOk P q o (.lbox ti.zero) none q := by
  obtain ⟨i, d, hi, hd, hkd, hlk, z, hz, hzs, hz1, hzl⟩ := tiOf_und ht
  refine op_val fun fr a c hr => ?_
  obtain ⟨ow, hr⟩ := hr
  obtain ⟨c', o', hw, hrel⟩ := hr.fresh (.cells z.cells t) z.cells t rfl (fun _ => False) (x := .lbox ti.zero) (v := .pointer (some ⟨c.w.heap.size, 0, none⟩)) (fun c' hw _ hI => ⟨_, .inr rfl, by
    refine rep_newbox hw (fun p hp => (hI p).1 hp) (by rw [hzl]; simp) hz1 (fun i hi => ?_)
    rw [hzl, getD_toList_map _ _ (by rw [hzl] at hi; simpa using hi)]; exact rep_ofVal _ _⟩)
  refine ⟨c', _, ?_, ⟨o', hrel⟩, fun _ _ h => by cases h⟩
  rw [hw]
  simp [execOp, ho, Instr.alloc, zeroValue, typeInfo, hi, hz, run_newVar]

theorem ok_box {o : Oper} {q : Q} {t : TypeId} {ti : TI} {x : Operand} (ho : o.op = .box t x) (_ht : tiOf P t = some ti) (h1 : (cellsOf (dup (ev q.E x))).all one = true) : OpOk P q o (.lbox (cellsOf (dup (ev q.E x)))) none q := by
  refine op_val fun fr a c hr => ?_
  obtain ⟨ow, hr⟩ := hr
  have hd := hr.evd x
  obtain ⟨hs, _, ho1⟩ := rep_cells hd h1
  obtain ⟨c', o', hw, hrel⟩ := hr.fresh (.cells (a.eval x).cells t) (a.eval x).cells t rfl (fun _ => False) (x := .lbox (cellsOf (dup (ev q.E x)))) (v := .pointer (some ⟨c.w.heap.size, 0, none⟩)) (fun c' hw hext hI => ⟨_, .inr rfl, by
    exact rep_newbox hw (fun p hp => (hI p).1 hp) hs ho1 (rep_cells (hd.ext hext (fun g hg => by simp at hg)) h1).2.1⟩)
  refine ⟨c', _, ?_, ⟨o', hrel⟩, fun _ _ h => by cases h⟩
  rw [hw]
  simp [execOp, ho, Instr.box, run_newVar]

/-- What lies in a variable of the call's own. -/
theorem Rel.boxR {fr : Fr} {q : Q} {a : Act} {c : Cx} {ow : Ow} (hr : RelO fr q a c [] [] ow) {d : Nat} (hne : 0 < (boxAt q.E d).length) :
    d < q.E.length ∧ q.E.getD d .any = .lbox (boxAt q.E d) ∧ ∃ g cur e, a.tmps.getD d undef = .pointer (some ⟨g, 0, none⟩) ∧ ow (.env d) = [g] ∧ cur.size = (boxAt q.E d).length ∧ c.w.heap[g]? = some (.cells cur e (0, 0)) ∧ (∀ p, ¬ c.I g p) ∧
      (∀ p, p < cur.size → (cur.getD p undef).oneCell' = true) ∧ ∀ i, i < (boxAt q.E d).length → Rep c ((boxAt q.E d).getD i .any) (cur.getD i undef) [] := by
  have hb : q.E.getD d .any = .lbox (boxAt q.E d) := by
    unfold boxAt at hne ⊢
    split <;> simp_all
  have hd : d < q.E.length := by
    rcases Nat.lt_or_ge d q.E.length with h1 | h1
    · exact h1
    · rw [List.getD_eq_getElem?_getD, List.getElem?_eq_none h1] at hb; simp at hb
  have r := hr.env d hd
  rw [hb] at r
  generalize hv : a.tmps.getD d undef = v at r
  generalize hO : ow (.env d) = O at r
  cases r with
  | lbox _ g cur e hs hh hI h1 hr => exact ⟨hd, hb, g, cur, e, rfl, rfl, hs, hh, hI, h1, hr⟩

theorem getD_part (xs : List LV) (o n i : Nat) (hi : i < n) : ((xs.drop o).take n).getD i .any = xs.getD (o + i) .any := by
  simp only [List.getD_eq_getElem?_getD, List.getElem?_take, List.getElem?_drop]
  rw [if_pos hi]

theorem ok_load_own {o : Oper} {q : Q} {t : TypeId} {ti : TI} {x : Operand} {d p : Nat} (ho : o.op = .load t x) (ht : tiOf P t = some ti) (ha : q.addr x = some (d, p))
    (hb : p + ti.lk.length ≤ (boxAt q.E d).length) (hpos : 0 < ti.lk.length) (hl : isAggK ti.kd = false → ti.lk.length = 1) : OpOk P q o (part ti (boxAt q.E d) p) none q := by
  obtain ⟨i, dd, hi, hd, hkd, hlk, _⟩ := tiOf_und ht
  refine op_pure fun fr a c hr => ?_
  obtain ⟨_, g', h1, h2⟩ := hr.addr ha
  obtain ⟨ow, hr⟩ := hr
  obtain ⟨hdl, hbx, g, cur, e, hv, hO, hs, hh, hI, ho1, hrep⟩ := Rel.boxR (d := d) hr (by omega)
  rw [h1] at hv
  simp at hv
  subst hv
  have hcell : ∀ j, j < (boxAt q.E d).length → c.w.cell? ⟨g', j, none⟩ = some (cur.getD j undef) := fun j hj => by
    have : j < cur.size := by rw [hs]; exact hj
    simp [World.cell?, hh, this, Array.getD_eq_getD_getElem?]
  unfold part
  cases hk : isAggK ti.kd with
  | true =>
    simp only
    refine ⟨.agg ((List.range i.size).map fun j => cur.getD (p + j) undef).toArray, ?_, ?_⟩
    · have := run_loadAt_agg (P := P) (w := c.w) hi hd (by rw [← hkd]; exact hk) ⟨g', p, none⟩ (fun j => cur.getD (p + j) undef) (fun j hj => by
        have hj' : j < ti.lk.length := by rw [hlk]; exact hj
        rw [Addr.add_lit]; exact hcell (p + j) (by omega))
      simp [execOp, ho, h2, this]
    · have hlen : ((boxAt q.E d).drop p |>.take ti.lk.length).length = ti.lk.length := by simp; omega
      refine .agg _ _ (by rw [hlen]; simp [hlk]) (fun j hj => ?_)
      rw [hlen] at hj
      rw [getD_range_map _ (by rw [← hlk]; exact hj), getD_part _ _ _ _ hj]
      exact hrep (p + j) (by omega)
  | false =>
    simp only
    have := hl hk
    refine ⟨cur.getD p undef, ?_, hrep p (by omega)⟩
    have := run_loadAt_leaf (P := P) (w := c.w) hd (by rw [← hkd]; exact hk) ⟨g', p, none⟩ _ (hcell p (by omega))
    simp [execOp, ho, h2, this]
end
end Go.Lm
