/- One operation: structs and short slices that are built. -/
import Derived.Test.YtnapepffpbbkoaaGreatDoorLmE5
import Derived.Laws.Tables
namespace Go.Lm
section
variable {R : Type} {P : Program} {T : Nat → Option TI} {C : Nat → Hd R}

theorem info_of_cells {t : TypeId} (h : P.cellsOf t ≠ 0) : ∃ j, P.info? t = some j ∧ j.size = P.cellsOf t := by
  unfold Program.cellsOf at h ⊢
  cases hq : P.info? t with
  | none => rw [hq] at h; simp at h
  | some j => exact ⟨j, rfl, by simp⟩
theorem placesL : ∀ (fs : List Field), (∀ f, f ∈ fs → P.cellsOf f.type ≠ 0) →
    (fs.mapM fun f => (P.info? f.type).map fun i => (f.offset, i.size)) = some (fs.map fun f => (f.offset, P.cellsOf f.type))
  | [], _ => by simp
  | f :: fs, h => by
    have ih := placesL fs (fun f hf => h f (List.mem_cons_of_mem _ hf))
    obtain ⟨j, hj, hjs⟩ := info_of_cells (h f (by simp))
    simp [List.mapM_cons, hj, ih, hjs]

theorem foldl_size (off : Nat) : ∀ (vs : List (Value × Nat)) (cs : Array Value), (vs.foldl (fun cs (p : Value × Nat) => cs.setIfInBounds (off + p.2) p.1) cs).size = cs.size
  | [], cs => rfl
  | v :: vs, cs => by simp [foldl_size off vs]
theorem foldl_get (off : Nat) : ∀ (vs : List Value) (k : Nat) (cs : Array Value) (i : Nat), off + k + vs.length ≤ cs.size →
    ((vs.zipIdx k).foldl (fun cs (p : Value × Nat) => cs.setIfInBounds (off + p.2) p.1) cs).getD i undef = if off + k ≤ i ∧ i < off + k + vs.length then vs.getD (i - (off + k)) undef else cs.getD i undef
  | [], k, cs, i, _ => by rw [if_neg (fun h => by simp at h; omega)]; rfl
  | v :: vs, k, cs, i, h => by
    simp only [List.zipIdx_cons, List.foldl_cons]
    simp only [List.length_cons] at h
    rw [foldl_get off vs (k + 1) _ i (by simp; omega)]
    by_cases h1 : i = off + k
    · subst h1
      rw [if_neg (by omega), if_pos (by simp)]
      have : off + k < cs.size := by omega
      simp [Array.getD_eq_getD_getElem?, this]
    · have hset : (cs.setIfInBounds (off + k) v).getD i undef = cs.getD i undef := by
        simp [Array.getD_eq_getD_getElem?, Array.getElem?_setIfInBounds_ne (Ne.symm h1)]
      by_cases h2 : off + (k + 1) ≤ i ∧ i < off + (k + 1) + vs.length
      · rw [if_pos h2, if_pos (by simp; omega)]
        have : i - (off + k) = (i - (off + (k + 1))) + 1 := by omega
        rw [this, List.getD_cons_succ]
      · rw [if_neg h2, if_neg (by simp; omega), hset]

theorem fill_one {c : Cx} {z : List LV} {cells : Array Value} {v : LV} {u : Value} {o n : Nat} (hs : cells.size = z.length) (hr : ∀ i, i < z.length → Rep c (z.getD i .any) (cells.getD i undef) [])
    (ho : ∀ i, i < cells.size → (cells.getD i undef).oneCell' = true) (hv : Rep c v u []) (hn : (cellsOf v).length = n) (h1 : (cellsOf v).all one = true) (hb : o + n ≤ z.length) :
    let cells' := u.cells.zipIdx.foldl (fun cs (p : Value × Nat) => cs.setIfInBounds (o + p.2) p.1) cells
    u.cells.size = n ∧ cells'.size = (setFrom z o (cellsOf v)).length ∧ (∀ i, i < (setFrom z o (cellsOf v)).length → Rep c ((setFrom z o (cellsOf v)).getD i .any) (cells'.getD i undef) []) ∧ ∀ i, i < cells'.size → (cells'.getD i undef).oneCell' = true := by
  obtain ⟨hus, hur, hu1⟩ := rep_cells hv h1
  have e : u.cells.zipIdx.foldl (fun cs (p : Value × Nat) => cs.setIfInBounds (o + p.2) p.1) cells = (u.cells.toList.zipIdx 0).foldl (fun cs (p : Value × Nat) => cs.setIfInBounds (o + p.2) p.1) cells := by
    rw [← Array.foldl_toList]; simp
  have hg : ∀ i, ((u.cells.toList.zipIdx 0).foldl (fun cs (p : Value × Nat) => cs.setIfInBounds (o + p.2) p.1) cells).getD i undef = if o ≤ i ∧ i < o + (cellsOf v).length then u.cells.getD (i - o) undef else cells.getD i undef := fun i => by
    rw [foldl_get o _ 0 _ _ (by simp; omega)]
    simp only [Nat.add_zero, Array.length_toList, hus]
    congr 1
    simp [List.getD_eq_getElem?_getD, Array.getD_eq_getD_getElem?]
  intro cells'
  have ec : cells' = (u.cells.toList.zipIdx 0).foldl (fun cs (p : Value × Nat) => cs.setIfInBounds (o + p.2) p.1) cells := e
  have hsz : cells'.size = cells.size := by rw [ec]; exact foldl_size o _ _
  refine ⟨by omega, by rw [hsz, setFrom_len, hs], fun i hi => ?_, fun i hi => ?_⟩
  · rw [setFrom_len] at hi
    rw [setFrom_get _ _ _ _ hi, ec, hg]
    split
    · exact hur _ (by omega)
    · exact hr i hi
  · rw [ec, hg]
    split
    · exact hu1 _ (by omega)
    · exact ho i (by omega)

theorem fillP_ok {c : Cx} {fs : List (Nat × Nat × TypeId)} {place : Nat → Option (Nat × Nat)} (hp : ∀ i o n t, fs[i]? = some (o, n, t) → place i = some (o, n)) :
    ∀ (is : List Nat) (vs : List LV) (us : List Value) (z : List LV) (cells : Array Value) (z' : List LV), fillP fs is vs z = some z' → is.length = us.length → (∀ i, i < us.length → Rep c (vs.getD i .any) (us.getD i undef) []) →
      cells.size = z.length → (∀ i, i < z.length → Rep c (z.getD i .any) (cells.getD i undef) []) → (∀ i, i < cells.size → (cells.getD i undef).oneCell' = true) →
      ∃ cells', Instr.fill place cells (is.zip us) = some cells' ∧ cells'.size = z'.length ∧ (∀ i, i < z'.length → Rep c (z'.getD i .any) (cells'.getD i undef) []) ∧ ∀ i, i < cells'.size → (cells'.getD i undef).oneCell' = true
  | [], vs, us, z, cells, z', h, hl, hu, hs, hr, ho => by
    simp only [fillP] at h; cases h
    exact ⟨cells, rfl, hs, hr, ho⟩
  | i :: is, vs, [], z, cells, z', h, hl, hu, hs, hr, ho => by simp at hl
  | i :: is, vs, u :: us, z, cells, z', h, hl, hu, hs, hr, ho => by
    simp only [fillP] at h
    split at h
    · rename_i o n t v vs' hf
      split at h
      · rename_i hb
        rw [Bool.and_eq_true, Bool.and_eq_true] at hb
        have hn := Nat.eq_of_beq_eq_true hb.1.1
        have hle := Nat.le_of_ble_eq_true hb.2
        have hv : Rep c v u [] := by simpa using hu 0 (by simp)
        obtain ⟨h1, h2, h3, h4⟩ := fill_one hs hr ho hv hn hb.1.2 hle
        obtain ⟨cells', hf', hrest⟩ := fillP_ok hp is vs' us _ _ z' h (by simpa using hl) (fun j hj => by simpa using hu (j + 1) (by simp; omega)) h2 h3 h4
        refine ⟨cells', ?_, hrest⟩
        simp only [List.zip_cons_cons, Instr.fill, hp i o n t hf]
        rw [if_neg (by simp; omega)]
        exact hf'
      · cases h
    · cases h

theorem ok_build {o : Oper} {q : Q} {t : TypeId} {ti : TI} {ps : Array (Nat × Operand)} {z : List LV} (ho : o.op = .build t ps) (ht : tiOf P t = some ti) (hk : ti.kd = .struct)
    (hz : fillP ti.fs (ps.toList.map (·.1)) (ps.toList.map fun p => dup (ev q.E p.2)) ti.zero = some z) : OpOk P q o (.agg z) none q := by
  obtain ⟨i, d, hi, hd, hkd, hlk, z0, hz0, hzs, hz1, hzl⟩ := tiOf_und ht
  obtain ⟨fs, hdf, hfs, hn⟩ := tiOf_struct ht hk
  refine op_pure fun fr a c hr => ?_
  obtain ⟨cells', h1, h2, h3, h4⟩ := fillP_ok (c := c) (place := (((fs.toList.map fun f => (f.offset, P.cellsOf f.type)).toArray)[·]?)) (fun i o n t hf => by
      rw [hfs, List.getElem?_map] at hf
      cases hq : fs.toList[i]? with
      | none => rw [hq] at hf; simp at hf
      | some f => rw [hq] at hf; simp at hf; simp; have := hq; simp at this; exact ⟨f, this, hf.1, hf.2.1⟩)
    _ _ (ps.toList.map fun p => a.eval p.2) _ z0.cells z hz (by simp) (fun j hj => by
      have hj' : j < ps.size := by simpa using hj
      have := hr.evd (ps[j]).2
      simpa [List.getD_eq_getElem?_getD, hj'] using this) (by rw [hzl]; simp) (fun j hj => by
      rw [hzl, getD_toList_map _ _ (by rw [hzl] at hj; simpa using hj)]; exact rep_ofVal _ _) hz1
  refine ⟨.agg cells', ?_, .agg z cells' h2 h3⟩
  have hb : P.built t ((ps.map fun p => (p.1, a.eval p.2)).toList) = some cells' := by
    unfold Program.built
    rw [hi, hdf]
    simp only [hz0, placesL fs.toList hn]
    rw [← h1]
    congr 1
    simp only [Array.toList_map]
    induction ps.toList with
    | nil => rfl
    | cons p l ih => simp [ih]
  have := run_build (P := P) c.w t _ cells' hb
  simp [execOp, ho, this]
end
end Go.Lm
