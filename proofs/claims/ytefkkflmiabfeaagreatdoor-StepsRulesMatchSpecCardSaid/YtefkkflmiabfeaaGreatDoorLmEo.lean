/- Objects of the store: new ones, loads, stores, taking and giving what is owned, freezing. -/
import Derived.Test.YtefkkflmiabfeaaGreatDoorLmEm
import Derived.Laws.MakeOwn
set_option linter.unusedVariables false
set_option linter.unusedSimpArgs false
namespace Go.Lm
section
variable {R : Type} {P : Program} {T : Nat → Option TI} {C : Nat → Hd R}

/-- An object, whole or by its first cells. -/
def MkO (mk : List LV → LV) (ty : TypeId) : Prop := mk = .obj ty ∨ mk = .vec ty
theorem MkO.ne {mk : List LV → LV} {ty : TypeId} (h : MkO mk ty) (xs : List LV) : mk xs ≠ .any := by rcases h with rfl | rfl <;> simp
theorem MkO.oval {mk : List LV → LV} {ty : TypeId} (h : MkO mk ty) (xs : List LV) (b : Nat) : oval (mk xs) b = .pointer (some ⟨b, 0, none⟩) := by rcases h with rfl | rfl <;> rfl
theorem MkO.dup {mk : List LV → LV} {ty : TypeId} (h : MkO mk ty) (xs : List LV) : dupL (mk xs) = .any := by rcases h with rfl | rfl <;> rfl
theorem MkO.inv {mk : List LV → LV} {ty : TypeId} (h : MkO mk ty) {c : Cx} {xs : List LV} {g : Nat} {O : List Nat} (r : Rep c (mk xs) (.pointer (some ⟨g, 0, none⟩)) O) :
    ∃ cur os, O = g :: flatO xs.length os ∧ xs.length ≤ cur.size ∧ c.w.heap[g]? = some (.cells cur ty (0, 0)) ∧ (∀ p, ¬ c.I g p) ∧ (∀ p, p < cur.size → (cur.getD p undef).oneCell' = true) ∧
      (∀ i, i < xs.length → Rep c (xs.getD i .any) (cur.getD i undef) (os i)) ∧ (mk = .obj ty → cur.size = xs.length) := by
  rcases h with rfl | rfl
  · cases r with
    | obj _ _ _ cur os hs hh hI h1 hr => exact ⟨cur, os, rfl, Nat.le_of_eq hs.symm, hh, hI, h1, hr, fun _ => hs⟩
  · cases r with
    | vec _ _ _ cur os hs hh hI h1 hr => exact ⟨cur, os, rfl, hs, hh, hI, h1, hr, fun h => by have := congrFun h []; cases this⟩
theorem MkO.mk {mk : List LV → LV} {ty : TypeId} (h : MkO mk ty) {c : Cx} {xs : List LV} {g : Nat} {cur : Array Value} {os : Nat → List Nat} (hs : xs.length ≤ cur.size) (hx : mk = .obj ty → cur.size = xs.length)
    (hh : c.w.heap[g]? = some (.cells cur ty (0, 0))) (hI : ∀ p, ¬ c.I g p) (h1 : ∀ p, p < cur.size → (cur.getD p undef).oneCell' = true) (hr : ∀ i, i < xs.length → Rep c (xs.getD i .any) (cur.getD i undef) (os i)) :
    Rep c (mk xs) (.pointer (some ⟨g, 0, none⟩)) (g :: flatO xs.length os) := by
  rcases h with rfl | rfl
  · exact .obj _ _ _ cur os (hx rfl) hh hI h1 hr
  · exact .vec _ _ _ cur os hs hh hI h1 hr
theorem objAt_some {S : List LV} {id : Nat} {K : (List LV → LV) → List LV → Option R} {r : R} (h : objAt S id K = some r) : ∃ mk ty xs, MkO mk ty ∧ S.getD id .any = mk xs ∧ K mk xs = some r := by
  unfold objAt at h
  split at h
  · rename_i ty xs hx; exact ⟨_, ty, xs, .inl rfl, hx, h⟩
  · rename_i ty xs hx; exact ⟨_, ty, xs, .inr rfl, hx, h⟩
  · cases h
theorem getD_lt {S : List LV} {id : Nat} {x : LV} (h : S.getD id .any = x) (hx : x ≠ .any) : id < S.length := by
  rcases Nat.lt_or_ge id S.length with h1 | h1
  · exact h1
  · rw [List.getD_eq_getElem?_getD, List.getElem?_eq_none h1] at h; exact absurd h.symm hx
theorem getD_set_self (S : List LV) (id : Nat) (x : LV) (h : id < S.length) : (S.set id x).getD id .any = x := by simp [List.getD_eq_getElem?_getD, h]
theorem getD_set_other (S : List LV) {id id' : Nat} (x : LV) (h : id' ≠ id) : (S.set id x).getD id' .any = S.getD id' .any := by simp [List.getD_eq_getElem?_getD, List.getElem?_set_ne (Ne.symm h)]

/-- A new object. -/
theorem RelO.newObj {fr : Fr} {q : Q} {a : Act} {c : Cx} {ow : Ow} (hr : RelO fr q a c [] [] ow) (ob : Obj) (x : LV)
    (hx : ∀ c' : Cx, c'.w = c.w.alloc ob → Ext c c' (fun _ => False) → (∀ p, ¬ c'.I c.w.heap.size p) → Rep c' x (oval x c.w.heap.size) [c.w.heap.size]) :
    ∃ c', c'.w = c.w.alloc ob ∧ c'.ι q.S.length = c.w.heap.size ∧ q.S.length < c'.n ∧ Rel fr { q with S := q.S ++ [x] } a c' := by
  obtain ⟨hb1, hb2⟩ := MapKept.heap_alloc c.w ob
  have hn := hr.sto.n
  have hsize : (c.w.alloc ob).heap.size = c.w.heap.size + 1 := by simp
  let c' : Cx := { c with w := c.w.alloc ob, n := c.n + 1, ι := fun id => if id = c.n then c.w.heap.size else c.ι id }
  have hext : Ext c c' (fun _ => False) :=
    ⟨Nat.le_succ _, fun id hid => by show (if id = c.n then _ else _) = _; rw [if_neg (Nat.ne_of_lt hid)], fun _ _ h => h, fun b o hb => World.cell?_of_block (w := c.w) (hb2 b (hr.sto.bd b o hb)), by show _ ≤ (c.w.alloc _).heap.size; omega, fun b hb _ => hb2 b hb, fun _ _ _ _ h => h, (fun _ _ _ _ h _ => False.elim h), rfl, rfl, rfl⟩
  let o' : Ow := fun k => match k with
    | .sto id => if id = q.S.length then [c.w.heap.size] else ow (.sto id)
    | .arg _ => []
    | k => ow k
  have sub : ∀ k g, g ∈ o' k → (k = .sto q.S.length ∧ g = c.w.heap.size) ∨ g ∈ ow k := fun k g hg => by
    cases k with
    | sto id =>
      simp only [o'] at hg
      split at hg
      · rename_i e; subst e; exact .inl ⟨rfl, by simpa using hg⟩
      · exact .inr hg
    | arg i => simp [o'] at hg
    | env t => exact .inr hg
  have hι : c'.ι q.S.length = c.w.heap.size := by show (if q.S.length = c.n then _ else _) = _; rw [if_pos hn.symm]
  refine ⟨c', rfl, hι, by show _ < c.n + 1; omega, o', hr.len, hr.alen, fun t ht => (hr.env t ht).ext hext (by simp), hr.al, ⟨by show c.n + 1 = _; simp [hn], fun id hid => ?_, fun b p hb => ?_⟩, fun i hi => absurd hi (by simp), rfl, ⟨fun k => ?_, fun k k' g hne hg hg' => ?_⟩, hr.ext.trans hext (fun _ _ h => h.elim), fun k g hg => ?_, hr.df⟩
  · have hid' : id < q.S.length + 1 := by simpa using hid
    by_cases e : id = q.S.length
    · subst e
      have h1 : (q.S ++ [x]).getD q.S.length .any = x := by simp [List.getD_eq_getElem?_getD]
      show Rep c' ((q.S ++ [x]).getD q.S.length .any) (oval ((q.S ++ [x]).getD q.S.length .any) (c'.ι q.S.length)) (o' (.sto q.S.length))
      rw [h1]
      have h3 : o' (.sto q.S.length) = [c.w.heap.size] := by simp [o']
      rw [hι, h3]
      exact hx c' rfl hext (fun p hp => by have := hr.sto.bd _ p hp; omega)
    · have hlt : id < q.S.length := by omega
      have h1 : (q.S ++ [x]).getD id .any = q.S.getD id .any := by simp [List.getD_eq_getElem?_getD, List.getElem?_append, hlt]
      show Rep c' ((q.S ++ [x]).getD id .any) (oval ((q.S ++ [x]).getD id .any) (c'.ι id)) (o' (.sto id))
      rw [h1]
      have h2 : c'.ι id = c.ι id := by show (if id = c.n then _ else _) = _; rw [if_neg (by omega)]
      have h3 : o' (.sto id) = ow (.sto id) := by simp [o', e]
      rw [h2, h3]
      exact (hr.sto.r id hlt).ext hext (by simp)
  · show b < (c.w.alloc ob).heap.size
    have := hr.sto.bd b p hb
    omega
  · cases k with
    | sto id => simp only [o']; split <;> simp [hr.sep.nd]
    | arg i => exact List.nodup_nil
    | env t => exact hr.sep.nd _
  · rcases sub k g hg with ⟨rfl, rfl⟩ | h1 <;> rcases sub k' _ hg' with ⟨rfl, h2⟩ | h2
    · exact absurd rfl hne
    · have := (hr.own _ _ h2).1; omega
    · subst h2; have := (hr.own _ _ h1).1; omega
    · exact hr.sep.dj k k' g hne h1 h2
  · show g < (c.w.alloc ob).heap.size ∧ _
    rcases sub k g hg with ⟨rfl, rfl⟩ | h1
    · exact ⟨by omega, .inr hr.ext.size⟩
    · exact ⟨by have := (hr.own k g h1).1; omega, (hr.own k g h1).2⟩

theorem rep_obj0 {c' : Cx} {w : World} {xs : List LV} {cells : Array Value} {e : TypeId} (hw : c'.w = w.alloc (.cells cells e)) (hI : ∀ p, ¬ c'.I w.heap.size p) (hs : cells.size = xs.length)
    (h1 : ∀ p, p < cells.size → (cells.getD p undef).oneCell' = true) (hr : ∀ i, i < xs.length → Rep c' (xs.getD i .any) (cells.getD i undef) []) : Rep c' (.obj e xs) (oval (.obj e xs) w.heap.size) [w.heap.size] := by
  have := Rep.obj (c := c') e xs w.heap.size cells (fun _ => []) hs (by rw [hw]; exact heap_alloc_new _ _) hI h1 hr
  rwa [flatO_nil] at this
theorem ok_allocS {o : Oper} {q : Q} {t : TypeId} {ti : TI} (ho : o.op = .alloc t) (ht : tiOf P t = some ti) : OpOk P q o (.ptr q.S.length 0) none { q with S := q.S ++ [.obj t ti.zero] } := by
  obtain ⟨i, d, hi, hd, hkd, hlk, z, hz, hzs, hz1, hzl⟩ := tiOf_und ht
  refine op_val fun fr a c hr => ?_
  obtain ⟨ow, hr⟩ := hr
  obtain ⟨c', hw, hι, hlt, hrel⟩ := hr.newObj (.cells z.cells t) (.obj t ti.zero) (fun c' hw _ hI => by
    refine rep_obj0 hw hI (by rw [hzl]; simp) hz1 (fun i hi => ?_)
    rw [hzl, getD_toList_map _ _ (by rw [hzl] at hi; simpa using hi)]; exact rep_ofVal _ _)
  obtain ⟨o1, hrel⟩ := hrel
  refine ⟨c', .pointer (some ⟨c.w.heap.size, 0, none⟩), ?_, hrel.fly1 (by rw [← hι]; exact .ptr _ _ hlt), fun _ _ h => by cases h⟩
  rw [hw]
  simp [execOp, ho, Instr.alloc, zeroValue, typeInfo, hi, hz, run_newVar]
theorem ok_boxS {o : Oper} {q : Q} {t : TypeId} {x : Operand} (ho : o.op = .box t x) (h1 : (cellsOf (dup (ev q.E x))).all one = true) : OpOk P q o (.ptr q.S.length 0) none { q with S := q.S ++ [.obj t (cellsOf (dup (ev q.E x)))] } := by
  refine op_val fun fr a c hr => ?_
  obtain ⟨ow, hr⟩ := hr
  have hd := hr.evd x
  obtain ⟨hs, _, ho1⟩ := rep_cells hd h1
  obtain ⟨c', hw, hι, hlt, hrel⟩ := hr.newObj (.cells (a.eval x).cells t) (.obj t (cellsOf (dup (ev q.E x)))) (fun c' hw hext hI =>
    rep_obj0 hw hI hs ho1 (rep_cells (hd.ext hext (fun g hg => by simp at hg)) h1).2.1)
  obtain ⟨o1, hrel⟩ := hrel
  refine ⟨c', .pointer (some ⟨c.w.heap.size, 0, none⟩), ?_, hrel.fly1 (by rw [← hι]; exact .ptr _ _ hlt), fun _ _ h => by cases h⟩
  rw [hw]
  simp [execOp, ho, Instr.box, run_newVar]
theorem zeros_len (n : Nat) (zs : List LV) : (zeros n zs).length = n * zs.length := by simp [zeros]
theorem zeros_get (n : Nat) (zs : List LV) : ∀ (p : Nat), p < n * zs.length → (zeros n zs).getD p .any = zs.getD (p % zs.length) .any := by
  induction n with
  | zero => intro p hp; simp at hp
  | succ n ih =>
    intro p hp
    have hz : 0 < zs.length := Nat.pos_of_ne_zero fun e => by rw [e] at hp; simp at hp
    have e : zeros (n + 1) zs = zs ++ zeros n zs := by simp [zeros, List.replicate_succ]
    rw [e]
    by_cases h : p < zs.length
    · rw [getD_app_lt _ _ _ _ h, Nat.mod_eq_of_lt h]
    · have e1 : (zs ++ zeros n zs).getD p .any = (zeros n zs).getD (p - zs.length) .any := by
        simp only [List.getD_eq_getElem?_getD]; rw [List.getElem?_append_right (by omega)]
      rw [Nat.add_mul] at hp
      rw [e1, ih _ (by omega), ← Nat.mod_eq_sub_mod (by omega)]
theorem ok_makeSlice {o : Oper} {q : Q} {t e : TypeId} {ti ei : TI} {i : TypeInfo} {x y : Operand} {k k' : IntKind} {n : Int} (ho : o.op = .makeSlice t x y) (hd : P.underlying t = some (.slice e)) (hi : P.info? e = some i) (hel : tiOf P e = some ei) (_hsz : i.size = ti.esz)
    (hx : ev q.E x = .int k n) (hy : ev q.E y = .int k' n) (h0 : 0 ≤ n) (hb : (i.bytes : Int) * n ≤ 140737488355328) (h63 : n ≤ 9223372036854775807) :
    OpOk P q o (.osl q.S.length 0 ti.esz n.toNat) none { q with S := q.S ++ [.obj e (zeros n.toNat ei.zero)] } := by
  obtain ⟨i', d, hi', _, hkd, hlk, z, hz, hzs, hz1, hzl⟩ := tiOf_und hel
  rw [hi] at hi'
  cases hi'
  refine op_val fun fr a c hr => ?_
  have ex := hr.evInt hx
  have ey := hr.evInt hy
  obtain ⟨ow, hr⟩ := hr
  have hrun := run_make (P := P) c.w t e i z hd hi hz k k' n n h0 (Int.le_refl _) (by omega) h63
  have hlen : ei.zero.length = i.size := by rw [hzl]; simpa using hzs
  have hms : (madeCells z.cells (n.toNat * i.size)).size = n.toNat * i.size := size_madeCells _ _
  have hget : ∀ p, p < n.toNat * i.size → (madeCells z.cells (n.toNat * i.size)).getD p undef = z.cells.getD (p % i.size) undef := fun p hp => by
    have hz0 : 0 < z.cells.size := by rw [hzs]; exact Nat.pos_of_ne_zero fun e => by rw [e] at hp; simp at hp
    have hm := Nat.mod_lt p hz0
    rw [← hzs] at hp ⊢
    simp only [madeCells, Array.getD_eq_getD_getElem?, Array.getElem?_map]
    rw [Array.getElem?_eq_getElem (by simpa using hp)]
    simp [hm]
  obtain ⟨c', hw, hι, hlt, hrel⟩ := hr.newObj (.cells (madeCells z.cells (n.toNat * i.size)) e) (.obj e (zeros n.toNat ei.zero)) (fun c' hw hext hI => by
    refine rep_obj0 hw hI (by rw [hms, zeros_len, hlen]) (fun p hp => ?_) (fun p hp => ?_)
    · rw [hms] at hp
      rw [hget p hp]
      have hz0 : 0 < z.cells.size := by rw [hzs]; exact Nat.pos_of_ne_zero fun e => by rw [e] at hp; simp at hp
      exact hz1 _ (by rw [← hzs]; exact Nat.mod_lt p hz0)
    · rw [zeros_len] at hp
      rw [zeros_get _ _ _ hp, hget p (by rw [← hlen]; exact hp), ← hlen]
      have hz0 : 0 < ei.zero.length := Nat.pos_of_ne_zero fun e => by rw [e] at hp; simp at hp
      have hm := Nat.mod_lt p hz0
      rw [hzl] at hm ⊢
      simp only [List.length_map] at hm
      rw [getD_toList_map _ _ (by simpa using hm)]
      exact rep_ofVal _ _)
  obtain ⟨o1, hrel⟩ := hrel
  refine ⟨c', .slice (some ⟨c.w.heap.size, 0, none⟩) n.toNat n.toNat, ?_, hrel.fly1 (by rw [← hι]; exact .osl _ _ _ _ _ hlt (Nat.le_refl _) (by omega) ⟨madeCells z.cells (n.toNat * i.size), e, (0, 0), by rw [hι, hw]; exact heap_alloc_new _ _, by rw [hms, ← _hsz]; omega⟩), fun _ _ h => by cases h⟩
  rw [hw]
  simp [execOp, ho, ex, ey, hrun]

/-- What lies in an object. -/
theorem RelO.obj {fr : Fr} {q : Q} {a : Act} {c : Cx} {us : List LV} {vs : List Value} {ow : Ow} (hr : RelO fr q a c us vs ow) {id : Nat} {mk : List LV → LV} {ty : TypeId} {xs : List LV} (hm : MkO mk ty) (hS : q.S.getD id .any = mk xs) :
    id < q.S.length ∧ ∃ cur os, ow (.sto id) = c.ι id :: flatO xs.length os ∧ xs.length ≤ cur.size ∧ c.w.heap[c.ι id]? = some (.cells cur ty (0, 0)) ∧ (∀ p, ¬ c.I (c.ι id) p) ∧
      (∀ p, p < cur.size → (cur.getD p undef).oneCell' = true) ∧ (∀ i, i < xs.length → Rep c (xs.getD i .any) (cur.getD i undef) (os i)) ∧ (mk = .obj ty → cur.size = xs.length) := by
  have hid := getD_lt hS (hm.ne xs)
  have h := hr.sto.r id hid
  rw [hS, hm.oval] at h
  exact ⟨hid, hm.inv h⟩
theorem getD_mapDup (xs : List LV) (i : Nat) : (xs.map dupL).getD i .any = dupL (xs.getD i .any) := getD_map (f := Lm.dupL) xs i rfl
theorem ldO_some {t : TI} {xs : List LV} {p : Nat} {K : LV → Option R} {r : R} (h : ldO t xs p K = some r) : ∃ y, K y = some r ∧ p + t.lk.length ≤ xs.length ∧
    ((isAggK t.kd = true ∧ ∃ l, y = .agg l ∧ l.length = t.lk.length ∧ ∀ {c : Cx} (f : Nat → Value), (∀ j, j < t.lk.length → Rep c (dupL (xs.getD (p + j) .any)) (f j) []) → ∀ j, j < t.lk.length → Rep c (l.getD j .any) (f j) []) ∨
      (isAggK t.kd = false ∧ t.lk.length = 1 ∧ ∀ {c : Cx} {w : Value}, Rep c (dupL (xs.getD p .any)) w [] → Rep c y w [])) := by
  unfold ldO at h
  split at h
  · rename_i hk
    rcases ifB_some h with ⟨h1, h⟩ | ⟨_, h⟩
    · obtain ⟨l, hK, hll, hl⟩ := decL_some _ _ _ _ _ h
      exact ⟨_, hK, Nat.le_of_ble_eq_true h1, .inl ⟨hk, l, rfl, hll, fun f hf => hl f (fun j hj => by rw [getD_mapDup]; exact hf j hj)⟩⟩
    · cases h
  · rename_i hk
    split at h
    · rename_i l hl
      unfold ldL at h
      rcases ifB_some h with ⟨h1, h⟩ | ⟨_, h⟩
      · obtain ⟨y, hK, hy⟩ := dec_some h
        have := Nat.le_of_ble_eq_true h1
        exact ⟨y, hK, by rw [hl]; simp; omega, .inr ⟨hk, by rw [hl]; rfl, hy⟩⟩
      · cases h
    · cases h
theorem ok_load_obj {o : Oper} {q : Q} {t : TypeId} {ti : TI} {x : Operand} {id p : Nat} {mk : List LV → LV} {ty : TypeId} {xs : List LV} (hm : MkO mk ty) (ho : o.op = .load t x) (ht : tiOf P t = some ti) (hx : ev q.E x = .ptr id p) (hS : q.S.getD id .any = mk xs)
    {K : LV → Option R} {r : R} (h : ldO ti xs p K = some r) : ∃ y, K y = some r ∧ OpOk P q o y none q := by
  obtain ⟨i, d, hi, hd, hkd, hlk, _⟩ := tiOf_und ht
  obtain ⟨y, hK, hle, hy⟩ := ldO_some h
  refine ⟨y, hK, op_pure fun fr a c hr => ?_⟩
  obtain ⟨O, r⟩ := hr.evr x
  rw [hx] at r
  generalize hv : a.eval x = z at r
  cases r with
  | ptr _ _ hid =>
    obtain ⟨ow, hr⟩ := hr
    obtain ⟨hid, cur, _, _, hs, hh, hI, h1, hrep, hex⟩ := hr.obj hm hS
    have hcell : ∀ j, j < xs.length → c.w.cell? ⟨c.ι id, j, none⟩ = some (cur.getD j undef) := fun j hj => by
      have : j < cur.size := Nat.lt_of_lt_of_le hj hs
      simp [World.cell?, hh, this, Array.getD_eq_getD_getElem?]
    rcases hy with ⟨hk, l, rfl, hll, hl⟩ | ⟨hk, hl1, hl⟩
    · refine ⟨.agg ((List.range i.size).map fun j => cur.getD (p + j) undef).toArray, ?_, ?_⟩
      · have := run_loadAt_agg (P := P) (w := c.w) hi hd (by rw [← hkd]; exact hk) ⟨c.ι id, p, none⟩ (fun j => cur.getD (p + j) undef) (fun j hj => by
          have hj' : j < ti.lk.length := by rw [hlk]; exact hj
          rw [Addr.add_lit]; exact hcell (p + j) (by omega))
        simp [execOp, ho, hv, this]
      · refine .agg _ _ (by simp [hll, hlk]) (fun j hj => ?_)
        rw [hll] at hj
        rw [getD_range_map _ (by rw [← hlk]; exact hj)]
        exact hl (fun j => cur.getD (p + j) undef) (fun j hj => (hrep (p + j) (by omega)).dupL) j hj
    · refine ⟨cur.getD p undef, ?_, hl (hrep p (by omega)).dupL⟩
      have := run_loadAt_leaf (P := P) (w := c.w) hd (by rw [← hkd]; exact hk) ⟨c.ι id, p, none⟩ _ (hcell p (by omega))
      simp [execOp, ho, hv, this]

/-- Among an object's owners one part may be turned. -/
theorem flatO_upd {n : Nat} {os os' : Nat → List Nat} {g : Nat} (h : g ∈ flatO n os') : ∃ i, i < n ∧ g ∈ os' i := flatO_mem.1 h

/-- The owner of a cell is taken. -/
theorem ok_take {o : Oper} {q : Q} {t : TypeId} {ti : TI} {x : Operand} {id p : Nat} {mk : List LV → LV} {ty : TypeId} {xs ys : List LV} (hm : MkO mk ty) (ho : o.op = .load t x) (ht : tiOf P t = some ti) (hk : ti.kd = .slice) (hx : ev q.E x = .ptr id p) (hS : q.S.getD id .any = mk xs)
    (hy : xs.getD p .any = .own ti.el ti.esz ys ∨ (xs.getD p .any = .nilsl ∧ ys = [])) : OpOk P q o (.own ti.el ti.esz ys) none { q with S := q.S.set id (mk (xs.set p (.sl ti.esz ys))) } := by
  obtain ⟨i, d, hi, hd, hkd, hlk, _⟩ := tiOf_und ht
  have hp : p < xs.length := by
    rcases Nat.lt_or_ge p xs.length with h1 | h1
    · exact h1
    · rw [List.getD_eq_getElem?_getD, List.getElem?_eq_none h1] at hy; simp at hy
  refine op_val fun fr a c hr => ?_
  obtain ⟨O, r⟩ := hr.evr x
  rw [hx] at r
  generalize hv : a.eval x = z at r
  cases r with
  | ptr _ _ hid =>
    obtain ⟨ow, hr⟩ := hr
    obtain ⟨hid, cur, os, hO, hs, hh, hI, h1, hrep, hex⟩ := hr.obj hm hS
    have hcell : c.w.cell? ⟨c.ι id, p, none⟩ = some (cur.getD p undef) := by
      have : p < cur.size := Nat.lt_of_lt_of_le hp hs
      simp [World.cell?, hh, this, Array.getD_eq_getD_getElem?]
    have hrp := hrep p hp
    have hown : Rep c (.own ti.el ti.esz ys) (cur.getD p undef) (os p) := by
      rcases hy with hy | ⟨hy, rfl⟩
      · rw [hy] at hrp; exact hrp
      · rw [hy] at hrp
        generalize hz : cur.getD p undef = v at hrp
        generalize hO' : os p = O' at hrp
        cases hrp
        exact .own0 _ _
    have hnd := hr.sep.nd (.sto id)
    rw [hO] at hnd
    obtain ⟨hg, hnd⟩ := List.nodup_cons.1 hnd
    obtain ⟨n1, n2⟩ := flatO_nd hnd
    let os' : Nat → List Nat := fun j => if j = p then [] else os j
    have hsub : ∀ g, g ∈ flatO xs.length os' → g ∈ flatO xs.length os ∧ g ∉ os p := fun g hg => by
      obtain ⟨j, hj, hgj⟩ := flatO_mem.1 hg
      by_cases e : j = p
      · simp [os', e] at hgj
      · simp only [os', e, if_false] at hgj
        exact ⟨flatO_mem.2 ⟨j, hj, hgj⟩, n2 j p g hj hp e hgj⟩
    have hsubp : ∀ g, g ∈ os p → g ∈ flatO xs.length os := fun g hg => flatO_mem.2 ⟨p, hp, hg⟩
    let o' : Ow := upd (upd ow (.arg 0) (os p)) (.sto id) (c.ι id :: flatO xs.length os')
    have hsup : ∀ k g, g ∈ o' k → (k = .arg 0 ∧ g ∈ os p ∧ g ∈ ow (.sto id)) ∨ (k = .sto id ∧ g ∈ ow (.sto id) ∧ g ∉ os p) ∨ (k ≠ .arg 0 ∧ k ≠ .sto id ∧ g ∈ ow k) := fun k g hg => by
      simp only [o', upd] at hg
      split at hg
      · rename_i hk
        refine .inr (.inl ⟨hk, ?_, ?_⟩)
        · rw [hO]; rcases List.mem_cons.1 hg with rfl | hg
          · simp
          · exact List.mem_cons_of_mem _ (hsub g hg).1
        · rcases List.mem_cons.1 hg with rfl | hg
          · intro h; exact absurd (hsubp _ h) ‹_›
          · exact (hsub g hg).2
      · rename_i hk
        split at hg
        · rename_i hk'; exact .inl ⟨hk', hg, by rw [hO]; exact List.mem_cons_of_mem _ (hsubp g hg)⟩
        · rename_i hk'; exact .inr (.inr ⟨hk', hk, hg⟩)
    refine ⟨c, cur.getD p undef, ?_, ⟨o', hr.len, hr.alen, fun t' ht' => ?_, hr.al, ⟨by simpa using hr.sto.n, fun id' hid' => ?_, hr.sto.bd⟩, fun j hj => ?_, rfl, ⟨fun k => ?_, fun k k' g hne hg1 hg2 => ?_⟩, hr.ext, fun k g hg1 => ?_, hr.df⟩, fun _ _ h => by cases h⟩
    · have := run_loadAt_leaf (P := P) (w := c.w) hd (by rw [← hkd, hk]; rfl) ⟨c.ι id, p, none⟩ _ hcell
      simp [execOp, ho, hv, this]
    · simp only [o']; rw [upd_other _ _ (by simp), upd_other _ _ (by simp)]; exact hr.env t' ht'
    · have hid'' : id' < q.S.length := by simpa using hid'
      by_cases e1 : id' = id
      · subst e1
        show Rep c ((q.S.set id' _).getD id' .any) (oval ((q.S.set id' _).getD id' .any) _) _
        rw [getD_set_self _ _ _ hid'']
        simp only [o', upd_same, hm.oval]
        have := MkO.mk (c := c) (xs := xs.set p (.sl ti.esz ys)) (g := c.ι id') (cur := cur) (os := os') hm (by simpa using hs) (fun e => by simpa using hex e) hh hI h1 (fun j hj => by
          have hj' : j < xs.length := by simpa using hj
          by_cases e2 : j = p
          · subst e2
            rw [getD_set_self _ _ _ hj']
            simp only [os', if_true]
            exact hown.dup
          · rw [getD_set_other _ _ e2]
            simp only [os', e2, if_false]
            exact hrep j hj')
        simpa using this
      · show Rep c ((q.S.set id _).getD id' .any) (oval ((q.S.set id _).getD id' .any) _) _
        rw [getD_set_other _ _ e1]
        simp only [o']
        rw [upd_other _ _ (by simp [e1]), upd_other _ _ (by simp)]
        exact hr.sto.r id' hid''
    · have : j = 0 := by simp at hj; exact hj
      subst this
      simp only [o']
      rw [upd_other _ _ (by simp), upd_same]
      exact hown
    · simp only [o', upd]
      split
      · refine List.nodup_cons.2 ⟨fun h => ?_, flatO_nd_mk (fun j hj => by simp only [os']; split; exact List.nodup_nil; exact n1 j hj) (fun j k g hj hk hne hgj hgk => ?_)⟩
        · exact hg (hsub _ h).1
        · simp only [os'] at hgj hgk
          split at hgj
          · simp at hgj
          · split at hgk
            · simp at hgk
            · exact n2 j k g hj hk hne hgj hgk
      · split
        · exact n1 p hp
        · exact hr.sep.nd k
    · rcases hsup k g hg1 with ⟨rfl, h2, h2'⟩ | ⟨rfl, h2, h2'⟩ | ⟨h2, h2', h2''⟩ <;> rcases hsup k' g hg2 with ⟨rfl, h3, h3'⟩ | ⟨rfl, h3, h3'⟩ | ⟨h3, h3', h3''⟩
      · exact hne rfl
      · exact h3' h2
      · exact hr.sep.dj (.sto id) k' g (Ne.symm h3') h2' h3''
      · exact h2' h3
      · exact hne rfl
      · exact hr.sep.dj (.sto id) k' g (Ne.symm h3') h2 h3''
      · exact hr.sep.dj k (.sto id) g h2' h2'' h3'
      · exact hr.sep.dj k (.sto id) g h2' h2'' h3
      · exact hr.sep.dj k k' g hne h2'' h3''
    · rcases hsup k g hg1 with ⟨rfl, h2, h2'⟩ | ⟨rfl, h2, h2'⟩ | ⟨h2, h2', h2''⟩
      · exact hr.own _ g h2'
      · exact hr.own _ g h2
      · exact hr.own _ g h2''

/-- What is in flight goes into cells of an object. -/
theorem RelO.land {fr : Fr} {q : Q} {a : Act} {c : Cx} {vs : List LV} {us : List Value} {ow : Ow} (hr : RelO fr q a c vs us ow) {id p : Nat} {mk : List LV → LV} {ty : TypeId} {xs : List LV} (hm : MkO mk ty) (hS : q.S.getD id .any = mk xs) (hle : p + vs.length ≤ xs.length)
    (h1 : ∀ u, u ∈ us → u.oneCell' = true) {cells : List Value} (hcells : cells = us) :
    ∃ w', (storeCells ⟨c.ι id, p, none⟩ cells).run P c.w = .ok () w' ∧ Rel fr { q with S := q.S.set id (mk (setFrom xs p vs)) } a { c with w := w' } := by
  subst hcells
  obtain ⟨hid, cur, os, hO, hs, hh, hI, ho1, hrep, hex⟩ := hr.obj hm hS
  have hl := hr.flyl
  have hst := run_storeCells_at P (c.ι id) p ty cells 0 cur c.w hh (by omega) h1
  simp only [Nat.add_zero] at hst
  generalize hnew : (List.take p cur.toList ++ cells ++ List.drop (p + cells.length) cur.toList).toArray = new at hst
  have hnews : new.size = cur.size := by subst hnew; simp; omega
  have hnget : ∀ j, new.getD j undef = if p ≤ j ∧ j < p + vs.length then cells.getD (j - p) undef else cur.getD j undef := fun j => by
    subst hnew
    rw [getD_splice _ _ _ _ (by simp; omega), hl]
    congr 1
    simp [List.getD_eq_getElem?_getD, Array.getD_eq_getD_getElem?]
  have hother : ∀ b, b ≠ c.ι id → (c.w.setRow (c.ι id) new).heap[b]? = c.w.heap[b]? := fun b hb => setRow_other c.w (c.ι id) b new hb
  have hsize : (c.w.setRow (c.ι id) new).heap.size = c.w.heap.size := by simp [World.setRow]
  have hext : Ext c { c with w := c.w.setRow (c.ι id) new } (fun b => b = c.ι id) := ⟨Nat.le_refl _, fun _ _ => rfl, fun _ _ h => h, fun b o hb => World.cell?_of_block (w := c.w) (hother b (fun e => by subst e; exact hI o hb)), by show _ ≤ (c.w.setRow _ new).heap.size; omega,
    fun b _ hb => hother b hb, fun _ _ _ _ h => h, (fun b _ _ _ hb h => by subst hb; rw [hh] at h; cases h; exact ⟨new, _, setRow_heap c.w _ cur new _ (0, 0) hh, hnews⟩), rfl, rfl, rfl⟩
  have hnd := hr.sep.nd (.sto id)
  rw [hO] at hnd
  obtain ⟨hg, hnd⟩ := List.nodup_cons.1 hnd
  obtain ⟨n1, n2⟩ := flatO_nd hnd
  let os' : Nat → List Nat := fun j => if p ≤ j ∧ j < p + vs.length then ow (.arg (j - p)) else os j
  have hsub : ∀ j g, j < xs.length → g ∈ os' j → (p ≤ j ∧ j < p + vs.length ∧ g ∈ ow (.arg (j - p))) ∨ (¬ (p ≤ j ∧ j < p + vs.length) ∧ g ∈ os j ∧ g ∈ ow (.sto id)) := fun j g hj hg => by
    simp only [os'] at hg
    split at hg
    · rename_i h; exact .inl ⟨h.1, h.2, hg⟩
    · rename_i h; exact .inr ⟨h, hg, by rw [hO]; exact List.mem_cons_of_mem _ (flatO_mem.2 ⟨j, hj, hg⟩)⟩
  have hgs : c.ι id ∈ ow (.sto id) := by rw [hO]; simp
  let o' : Ow := fun k => match k with
    | .env t => ow (.env t)
    | .sto id' => if id' = id then c.ι id :: flatO xs.length os' else ow (.sto id')
    | .arg _ => []
  have hsup : ∀ k g, g ∈ o' k → (k = .sto id ∧ (g ∈ ow (.sto id) ∨ ∃ i, g ∈ ow (.arg i))) ∨ (k ≠ .sto id ∧ (∀ i, k ≠ .arg i) ∧ g ∈ ow k) := fun k g hg => by
    cases k with
    | env t => exact .inr ⟨by simp, by simp, hg⟩
    | arg i => simp [o'] at hg
    | sto id' =>
      simp only [o'] at hg
      split at hg
      · rename_i e1
        subst e1
        refine .inl ⟨rfl, ?_⟩
        rcases List.mem_cons.1 hg with rfl | hg
        · exact .inl hgs
        · obtain ⟨j, hj, hgj⟩ := flatO_mem.1 hg
          rcases hsub j g hj hgj with ⟨_, _, h⟩ | ⟨_, _, h⟩
          · exact .inr ⟨_, h⟩
          · exact .inl h
      · rename_i e1; exact .inr ⟨by simpa using e1, by simp, hg⟩
  refine ⟨c.w.setRow (c.ι id) new, hst, o', hr.len, hr.alen, fun t ht => ?_, hr.al, ⟨by simpa using hr.sto.n, fun id' hid' => ?_, fun b p hb => by show b < (c.w.setRow _ new).heap.size; rw [hsize]; exact hr.sto.bd b p hb⟩, fun i hi => absurd hi (by simp), rfl, ⟨fun k => ?_, fun k k' g hne hg1 hg2 => ?_⟩, ?_, fun k g hg1 => ?_, hr.df⟩
  · exact (hr.env t ht).ext hext (fun b hb e => by subst e; exact hr.sep.dj (.env t) (.sto id) _ (by simp) hb hgs)
  · have hid'' : id' < q.S.length := by simpa using hid'
    by_cases e1 : id' = id
    · subst e1
      show Rep _ ((q.S.set id' _).getD id' .any) (oval ((q.S.set id' _).getD id' .any) _) _
      rw [getD_set_self _ _ _ hid'']
      simp only [o', if_true, hm.oval]
      have := MkO.mk (c := { c with w := c.w.setRow (c.ι id') new }) (xs := setFrom xs p vs) (g := c.ι id') (cur := new) (os := os') hm (by rw [hnews, setFrom_len]; exact hs) (fun e => by rw [hnews, setFrom_len]; exact hex e) (setRow_heap c.w (c.ι id') cur new ty (0, 0) hh) hI (fun j hj => ?_) (fun j hj => ?_)
      · rw [setFrom_len] at this; exact this
      · rw [hnget]
        split
        · rename_i h
          refine h1 _ ?_
          have : j - p < cells.length := by omega
          rw [List.getD_eq_getElem?_getD, List.getElem?_eq_getElem this]
          exact List.getElem_mem this
        · exact ho1 j (by omega)
      · rw [setFrom_len] at hj
        rw [setFrom_get _ _ _ _ hj, hnget]
        simp only [os']
        split
        · rename_i h
          refine (hr.fly (j - p) (by omega)).ext hext (fun b hb e => ?_)
          subst e
          exact hr.sep.dj (.arg (j - p)) (.sto id') _ (by simp) hb hgs
        · rename_i h
          refine (hrep j hj).ext hext (fun b hb e => ?_)
          subst e
          exact hg (flatO_mem.2 ⟨j, hj, hb⟩)
    · show Rep _ ((q.S.set id _).getD id' .any) (oval ((q.S.set id _).getD id' .any) _) _
      rw [getD_set_other _ _ e1]
      simp only [o', e1, if_false]
      exact (hr.sto.r id' hid'').ext hext (fun b hb e => by subst e; exact hr.sep.dj (.sto id') (.sto id) _ (by simpa using e1) hb hgs)
  · cases k with
    | env t => exact hr.sep.nd _
    | arg i => exact List.nodup_nil
    | sto id' =>
      simp only [o']
      split
      · refine List.nodup_cons.2 ⟨fun h => ?_, flatO_nd_mk (fun j hj => ?_) (fun j k g hj hk hne hgj hgk => ?_)⟩
        · obtain ⟨j, hj, hgj⟩ := flatO_mem.1 h
          rcases hsub j _ hj hgj with ⟨_, _, h⟩ | ⟨_, h, _⟩
          · exact hr.sep.dj (.arg (j - p)) (.sto id) _ (by simp) h hgs
          · exact hg (flatO_mem.2 ⟨j, hj, h⟩)
        · simp only [os']; split; exact hr.sep.nd _; exact n1 j hj
        · rcases hsub j g hj hgj with ⟨a1, a2, a3⟩ | ⟨a1, a2, a3⟩ <;> rcases hsub k g hk hgk with ⟨b1, b2, b3⟩ | ⟨b1, b2, b3⟩
          · exact hr.sep.dj (.arg (j - p)) (.arg (k - p)) g (by simp; omega) a3 b3
          · exact hr.sep.dj (.arg (j - p)) (.sto id) g (by simp) a3 b3
          · exact hr.sep.dj (.arg (k - p)) (.sto id) g (by simp) b3 a3
          · exact n2 j k g hj hk hne a2 b2
      · exact hr.sep.nd _
  · rcases hsup k g hg1 with ⟨rfl, h2⟩ | ⟨h2, h2', h2''⟩ <;> rcases hsup k' g hg2 with ⟨rfl, h3⟩ | ⟨h3, h3', h3''⟩
    · exact hne rfl
    · rcases h2 with h2 | ⟨i, h2⟩
      · exact hr.sep.dj (.sto id) k' g (Ne.symm h3) h2 h3''
      · exact hr.sep.dj (.arg i) k' g (fun e => h3' i e.symm) h2 h3''
    · rcases h3 with h3 | ⟨i, h3⟩
      · exact hr.sep.dj (.sto id) k g (Ne.symm h2) h3 h2''
      · exact hr.sep.dj (.arg i) k g (fun e => h2' i e.symm) h3 h2''
    · exact hr.sep.dj k k' g hne h2'' h3''
  · refine hr.ext.trans hext (fun b hb hm => ?_)
    subst hm
    rcases (hr.own (.sto id) _ hgs).2 with h2 | h2
    · exact h2
    · omega
  · show g < (c.w.setRow _ new).heap.size ∧ _
    rw [hsize]
    rcases hsup k g hg1 with ⟨rfl, h2 | ⟨i, h2⟩⟩ | ⟨_, _, h2⟩
    · exact hr.own _ g h2
    · exact hr.own _ g h2
    · exact hr.own _ g h2

theorem RelO.flyL {fr : Fr} {q : Q} {a : Act} {c : Cx} : ∀ (vs : List LV) (us : List Value) {xs : List LV} {ws : List Value} {ow : Ow}, RelO fr q a c xs ws ow → us.length = vs.length → (∀ i, i < vs.length → Rep c (vs.getD i .any) (us.getD i undef) []) →
    ∃ ow', RelO fr q a c (xs ++ vs) (ws ++ us) ow'
  | [], us, xs, ws, ow, hr, hl, _ => ⟨ow, by
    have : us = [] := List.eq_nil_of_length_eq_zero hl
    subst this
    simpa using hr⟩
  | v :: vs, [], xs, ws, ow, hr, hl, _ => by simp at hl
  | v :: vs, u :: us, xs, ws, ow, hr, hl, h => by
    obtain ⟨o1, h1⟩ := hr.fly1 (x := v) (v := u) (by simpa using h 0 (by simp))
    obtain ⟨o2, h2⟩ := RelO.flyL vs us h1 (by simpa using hl) (fun i hi => by simpa using h (i + 1) (by simpa using hi))
    exact ⟨o2, by simpa using h2⟩
theorem ok_store_obj {o : Oper} {q : Q} {t : TypeId} {ti : TI} {x y : Operand} {id p : Nat} {mk : List LV → LV} {ty : TypeId} {xs : List LV} (hm : MkO mk ty) (ho : o.op = .store t x y) (ht : tiOf P t = some ti) (hx : ev q.E x = .ptr id p) (hS : q.S.getD id .any = mk xs)
    (hlen : (cellsOf (dup (ev q.E y))).length = ti.lk.length) (h1 : (cellsOf (dup (ev q.E y))).all one = true) (hle : p + (cellsOf (dup (ev q.E y))).length ≤ xs.length) :
    OpOk P q o .any none { q with S := q.S.set id (mk (setFrom xs p (cellsOf (dup (ev q.E y))))) } := by
  obtain ⟨i, d, hi, hd, hkd, hlk, _⟩ := tiOf_und ht
  refine op_skip fun fr a c hr => ?_
  obtain ⟨O, r⟩ := hr.evr x
  rw [hx] at r
  generalize hv : a.eval x = z at r
  cases r with
  | ptr _ _ hid =>
    obtain ⟨ow, hr⟩ := hr
    obtain ⟨hys, hyr, hy1⟩ := rep_cells (hr.evd y) h1
    obtain ⟨o1, h2⟩ := hr.flyL (cellsOf (dup (ev q.E y))) (a.eval y).cells.toList (by simpa using hys) (fun i hi => by simpa [List.getD_eq_getElem?_getD, Array.getD_eq_getD_getElem?] using hyr i hi)
    simp only [List.nil_append] at h2
    obtain ⟨w', hst, hrel⟩ := h2.land (P := P) hm hS hle (fun u hu => by
      obtain ⟨j, hj, rfl⟩ := List.mem_iff_getElem.1 hu
      have := hy1 j (by simpa using hj)
      simpa [Array.getD_eq_getD_getElem?, show j < (a.eval y).cells.size from by simpa using hj] using this) rfl
    refine ⟨_, ?_, hrel⟩
    have hsz : (a.eval y).cells.size = i.size := by rw [hys, hlen, hlk]
    simp [execOp, ho, Instr.storeAt, Instr.sureAddr, storeVar, hv, sizeOf, typeInfo, hi, hsz, hst]
theorem ok_store_own {o : Oper} {q : Q} {t : TypeId} {ti : TI} {x y : Operand} {id p e z : Nat} {mk : List LV → LV} {ty : TypeId} {xs ys : List LV} (hm : MkO mk ty) (ho : o.op = .store t x y) (ht : tiOf P t = some ti) (hl1 : ti.lk.length = 1) (hx : ev q.E x = .ptr id p) (hS : q.S.getD id .any = mk xs)
    (hy : ev q.E y = .own e z ys) (hle : p + 1 ≤ xs.length) : OpOk P q o .any none { (q.used y) with S := q.S.set id (mk (setFrom xs p [.own e z ys])) } := by
  obtain ⟨i, d, hi, hd, hkd, hlk, _⟩ := tiOf_und ht
  refine op_skip fun fr a c hr => ?_
  obtain ⟨O, r⟩ := hr.evr x
  rw [hx] at r
  generalize hv : a.eval x = zz at r
  cases r with
  | ptr _ _ hid =>
    obtain ⟨ow, hr⟩ := hr
    obtain ⟨Oy, ry⟩ := hr.evo y
    obtain ⟨o1, h2⟩ := hr.take y
    simp only [List.nil_append] at h2
    rw [hy] at h2 ry
    have hone := ry.one rfl
    have hqS : (q.used y).S = q.S := by cases y <;> rfl
    obtain ⟨w', hst, hrel⟩ := h2.land (P := P) (id := id) (p := p) (xs := xs) hm (by rw [hqS]; exact hS) hle (fun u hu => by
      have : u = a.eval y := by simpa using hu
      subst this; exact hone) rfl
    refine ⟨_, ?_, by rw [hqS] at hrel; exact hrel⟩
    have hcells : (a.eval y).cells = #[a.eval y] := by
      generalize a.eval y = u at *
      cases u <;> simp [Value.oneCell'] at hone <;> rfl
    have hst : (storeCells ⟨c.ι id, p, none⟩ (a.eval y).cells.toList).run P c.w = .ok () w' := by rw [hcells]; simpa using hst
    have hsz : (a.eval y).cells.size = i.size := by rw [hcells, ← hlk, hl1]; rfl
    simp [execOp, ho, Instr.storeAt, Instr.sureAddr, storeVar, hv, sizeOf, typeInfo, hi, hsz, hst]

theorem ok_indexAddr_osl {o : Oper} {q : Q} {t e : TypeId} {i : TypeInfo} {x ix : Operand} {id p z n : Nat} {m : Int} (ho : o.op = .indexAddr t x ix) (hd : P.underlying t = some (.slice e)) (he : P.info? e = some i) (hsz : i.size = z)
    (hx : ev q.E x = .osl id p z n) {ki : IntKind} (hi : ev q.E ix = .int ki m) (h0 : 0 ≤ m) (h1 : m < n) : OpOk P q o (.ptr id (p + m.toNat * z)) none q :=
  op_pure fun fr a c hr => by
    obtain ⟨O, r⟩ := hr.evr x
    rw [hx] at r
    generalize hv : a.eval x = zz at r
    cases r with
    | osl _ _ _ _ cap hid hcap hmax =>
      refine ⟨.pointer (some ⟨c.ι id, p + m.toNat * z, none⟩), ?_, .ptr id _ hid⟩
      subst hsz
      simp [execOp, ho, Instr.indexAt, hr.evInt hi, asIntOf, run_underlying hd, hv, h0, h1, sizeOf, typeInfo, he, Addr.add_lit]
theorem ok_lenOsl {o : Oper} {q : Q} {x : Operand} {ts : Array TypeId} {t e : TypeId} {id p z n : Nat} (ho : o.op = .call { callee := .builtin .len, args := #[x], argTypes := ts })
    (ht : ts[0]? = some t) (hd : P.underlying t = some (.slice e)) (hx : ev q.E x = .osl id p z n) : OpOk P q o (.int .i64 n) none q :=
  op_pure fun fr a c hr => by
    obtain ⟨O, r⟩ := hr.evr x
    rw [hx] at r
    generalize hv : a.eval x = zz at r
    cases r with
    | osl _ _ _ _ cap hid hcap hmax => exact ⟨_, run_call_builtin ho (by simp [builtin, Builtin.len_, ht, run_underlying hd, hv, goInt]), .int _ _⟩
theorem ok_lenMap {o : Oper} {q : Q} {x : Operand} {ts : Array TypeId} {t k e : TypeId} {id : Nat} {kd : KD} {kvs : List (LV × LV)} (ho : o.op = .call { callee := .builtin .len, args := #[x], argTypes := ts })
    (ht : ts[0]? = some t) (hd : P.underlying t = some (.map k e)) (hx : ev q.E x = .map id) (hS : q.S.getD id .any = .mp kd kvs) : OpOk P q o (.int .i64 kvs.length) none q :=
  op_pure fun fr a c hr => by
    obtain ⟨g, es, clock, e1, _, hh, _, hs, _, _, _⟩ := mp_rep hr hx hS
    refine ⟨.int .i64 kvs.length, run_call_builtin ho ?_, .int _ _⟩
    simp [builtin, Builtin.len_, ht, run_underlying hd, e1, goInt, MapKept.run_getObj_map hh, hs]
end
end Go.Lm
