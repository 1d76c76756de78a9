/- One operation: variables of the call's own, fields, whole values. -/
import Derived.Test.YtnapepffpbbkoaaGreatDoorLmE2
namespace Go.Lm
section
variable {R : Type} {P : Program} {T : Nat → Option TI} {C : Nat → Hd R}

theorem tiOf_struct {t : TypeId} {ti : TI} (h : tiOf P t = some ti) (hk : ti.kd = .struct) : ∃ fs, P.underlying t = some (.struct fs) ∧ ti.fs = fs.toList.map (fun f => (f.offset, P.cellsOf f.type, f.type)) ∧ ∀ f, f ∈ fs.toList → P.cellsOf f.type ≠ 0 := by
  unfold tiOf at h
  split at h
  · rename_i i d hi hd
    split at h
    · split at h
      · split at h
        · cases h; cases hk
        · cases h
      · rename_i fs
        split at h
        · rename_i hall
          cases h
          refine ⟨fs, hd, rfl, fun f hf e => ?_⟩
          have := List.all_eq_true.1 hall f hf
          rw [e] at this; simp at this
        · cases h
      · cases h; cases hk
      · cases h; cases hk
      · cases h
        exfalso
        cases d <;> simp [kdOf] at hk <;> simp_all
    · cases h
  · cases h
/-- A type that has fields known is a struct. -/
theorem tiOf_fs {t : TypeId} {ti : TI} (h : tiOf P t = some ti) {i o n : Nat} {ft : TypeId} (hf : ti.fs[i]? = some (o, n, ft)) : ∃ fs f, P.underlying t = some (.struct fs) ∧ fs[i]? = some f ∧ f.offset = o ∧ P.cellsOf f.type = n ∧ f.type = ft ∧ n ≠ 0 := by
  have hk : ti.kd = .struct := by
    unfold tiOf at h
    split at h
    · split at h
      · split at h
        · split at h
          · cases h; simp at hf
          · cases h
        · split at h
          · cases h; rfl
          · cases h
        · cases h; simp at hf
        · cases h; simp at hf
        · cases h; simp at hf
      · cases h
    · cases h
  obtain ⟨fs, hd, hfs, hn⟩ := tiOf_struct h hk
  rw [hfs, List.getElem?_map] at hf
  cases hq : fs.toList[i]? with
  | none => rw [hq] at hf; simp at hf
  | some f =>
    rw [hq] at hf
    simp at hf
    refine ⟨fs, f, hd, by simpa using hq, hf.1, hf.2.1, hf.2.2, ?_⟩
    rw [← hf.2.1]
    exact hn f (List.mem_of_getElem? hq)

/-- The address of a variable of the call's own. -/
theorem Rel.addr {fr : Fr} {q : Q} {a : Act} {c : Cx} (hr : Rel fr q a c) {x : Operand} {d p : Nat} (h : q.addr x = some (d, p)) :
    d < q.E.length ∧ ∃ g, a.tmps.getD d undef = .pointer (some ⟨g, 0, none⟩) ∧ a.eval x = .pointer (some ⟨g, p, none⟩) := by
  obtain ⟨o, hr⟩ := hr
  unfold Q.addr at h
  split at h
  · rename_i t
    split at h
    · rename_i z hz
      cases h
      obtain ⟨_, hd, g, h1, h2⟩ := hr.al t d p hz
      exact ⟨hd, g, h1, h2⟩
    · split at h
      · rename_i xs hx
        cases h
        have ht : d < q.E.length := by
          rcases Nat.lt_or_ge d q.E.length with h1 | h1
          · exact h1
          · simp [List.getD_eq_getElem?_getD, List.getElem?_eq_none h1] at hx
        have r := hr.env d ht
        rw [hx] at r
        generalize hv : a.tmps.getD d undef = v at r
        generalize hO : o (.env d) = O at r
        cases r with
        | lbox _ g cur e hs hh hI h1 hr => exact ⟨ht, g, rfl, hv⟩
      · cases h
  · cases h

theorem ok_move' {o : Oper} {q : Q} {x : Operand} (ho : o.op = .move x) : OpOk P q o (dup (ev q.E x)) (q.addr x) q :=
  op_val fun fr a c hr => ⟨c, a.eval x, by simp [execOp, ho], by
    have hd := hr.evd x
    obtain ⟨ow, hr⟩ := hr
    exact hr.fly1 hd, fun e p h => by
    obtain ⟨h1, g, h2, h3⟩ := hr.addr h
    exact ⟨h1, g, h2, h3⟩⟩
theorem ok_nilCheck {o : Oper} {q : Q} {x : Operand} {v : LV} (ho : o.op = .nilCheck x) (hv : ev q.E x = v) (hp : ∀ {c : Cx} {w : Value} {O : List Nat}, Rep c v w O → (∃ a, w = .pointer (some a)) ∧ O = []) : OpOk P q o v none q :=
  op_pure fun fr a c hr => by
    obtain ⟨O, r⟩ := hr.evr x
    rw [hv] at r
    obtain ⟨⟨ad, h1⟩, rfl⟩ := hp r
    exact ⟨a.eval x, by simp [execOp, ho, h1], r⟩
theorem ok_nilCheck_own {o : Oper} {q : Q} {x : Operand} {d p : Nat} (ho : o.op = .nilCheck x) (ha : q.addr x = some (d, p)) : OpOk P q o .any (some (d, p)) q :=
  op_val fun fr a c hr => by
    obtain ⟨h1, g, h2, h3⟩ := hr.addr ha
    refine ⟨c, a.eval x, by simp [execOp, ho, h3], ?_, fun e p' h => ?_⟩
    · obtain ⟨ow, hr⟩ := hr
      exact hr.fly1 (.any _)
    · cases h; exact ⟨h1, g, h2, h3⟩
theorem ok_makeFunc {o : Oper} {q : Q} {f : FuncId} {first cs : Array Operand} (ho : o.op = .makeFunc (.func f) first cs) (hf : first.toList = []) : OpOk P q o (.fn f (cs.toList.map fun x => dup (ev q.E x))) none q :=
  op_pure fun fr a c hr => by
    have h0 : first = #[] := by simpa using hf
    subst h0
    refine ⟨.func (.func f) #[] (cs.map a.eval), by simp [execOp, ho, Instr.makeFunc], .fn f _ _ (by simp) (fun i hi => ?_)⟩
    have hi' : i < cs.size := by simpa using hi
    have e1 : (cs.toList.map fun x => dup (Lm.ev q.E x)).getD i .any = dup (Lm.ev q.E cs[i]) := by simp [List.getD_eq_getElem?_getD, hi']
    have e2 : (cs.map a.eval).getD i undef = a.eval cs[i] := by simp [Array.getD_eq_getD_getElem?, hi']
    rw [e1, e2]
    exact hr.evd _

theorem run_fieldAt {w : World} {t : TypeId} {fs : Array Field} {f : Field} {i : Nat} {b o : Nat} (hd : P.underlying t = some (.struct fs)) (hf : fs[i]? = some f) (hn : P.cellsOf f.type ≠ 0) :
    (Instr.fieldAt t (.pointer (some ⟨b, o, none⟩)) i).run P w = .ok (.pointer (some ⟨b, o + f.offset, none⟩)) w := by
  have hi : ∃ j, P.info? f.type = some j ∧ j.size ≠ 0 := by
    unfold Program.cellsOf at hn
    cases hq : P.info? f.type with
    | none => rw [hq] at hn; simp at hn
    | some j => rw [hq] at hn; exact ⟨j, rfl, by simpa using hn⟩
  obtain ⟨j, hj, hj0⟩ := hi
  simp [Instr.fieldAt, run_underlying hd, hf, Instr.sureAddr, fieldPlace, sizeOf, typeInfo, hj, hj0, Addr.add_lit]

theorem ok_fieldAddr_own {o : Oper} {q : Q} {t : TypeId} {ti : TI} {x : Operand} {i fo n d p : Nat} {ft : TypeId} (ho : o.op = .fieldAddr t x i) (ht : tiOf P t = some ti) (hf : ti.fs[i]? = some (fo, n, ft))
    (ha : q.addr x = some (d, p)) : OpOk P q o .any (some (d, p + fo)) q := by
  obtain ⟨fs, f, hd, hfi, hoff, hn, _, hn0⟩ := tiOf_fs ht hf
  refine op_val fun fr a c hr => ?_
  obtain ⟨hlt, g, h1, h2⟩ := hr.addr ha
  refine ⟨c, .pointer (some ⟨g, p + fo, none⟩), ?_, ?_, fun e p' he => ?_⟩
  · simp [execOp, ho, h2, run_fieldAt hd hfi (by rw [hn]; exact hn0), hoff]
  · obtain ⟨ow, hr⟩ := hr
    exact hr.fly1 (.any _)
  · cases he; exact ⟨hlt, g, h1, rfl⟩
theorem ok_fieldAddr_cptr {o : Oper} {q : Q} {t : TypeId} {ti : TI} {x : Operand} {i fo n m p : Nat} {ft : TypeId} {v : LV} (ho : o.op = .fieldAddr t x i) (ht : tiOf P t = some ti) (hf : ti.fs[i]? = some (fo, n, ft))
    (hx : ev q.E x = .cptr v m p) (hm : p + fo ≤ m) : OpOk P q o (.cptr v m (p + fo)) none q := by
  obtain ⟨fs, f, hd, hfi, hoff, hn, _, hn0⟩ := tiOf_fs ht hf
  refine op_pure fun fr a c hr => ?_
  obtain ⟨O, r⟩ := hr.evr x
  rw [hx] at r
  generalize hv : a.eval x = z at r
  cases r with
  | cptr _ _ _ b off cv hle hc hI h1 hr1 =>
    refine ⟨.pointer (some ⟨b, off + (p + fo), none⟩), ?_, .cptr v (p + fo) m b off cv hm hc hI h1 hr1⟩
    simp [execOp, ho, hv, run_fieldAt hd hfi (by rw [hn]; exact hn0), hoff, Nat.add_assoc]

theorem ok_fieldAddr_ptr {o : Oper} {q : Q} {t : TypeId} {ti : TI} {x : Operand} {i fo n id p : Nat} {ft : TypeId} (ho : o.op = .fieldAddr t x i) (ht : tiOf P t = some ti) (hf : ti.fs[i]? = some (fo, n, ft))
    (hx : ev q.E x = .ptr id p) : OpOk P q o (.ptr id (p + fo)) none q := by
  obtain ⟨fs, f, hd, hfi, hoff, hn, _, hn0⟩ := tiOf_fs ht hf
  refine op_pure fun fr a c hr => ?_
  obtain ⟨O, r⟩ := hr.evr x
  rw [hx] at r
  generalize hv : a.eval x = z at r
  cases r with
  | ptr _ _ hid =>
    refine ⟨.pointer (some ⟨c.ι id, p + fo, none⟩), ?_, .ptr id (p + fo) hid⟩
    simp [execOp, ho, hv, run_fieldAt hd hfi (by rw [hn]; exact hn0), hoff]

theorem isAggK_of {d : TypeDesc} (h : isAggK (kdOf d) = true) : (∃ fs, d = .struct fs) ∨ ∃ n e, d = .array n e := by
  cases d <;> simp [kdOf, isAggK] at h
  · exact .inr ⟨_, _, rfl⟩
  · exact .inl ⟨_, rfl⟩
theorem run_loadAt_agg {w : World} {t : TypeId} {i : TypeInfo} {d : TypeDesc} (hi : P.info? t = some i) (hd : P.underlying t = some d) (hk : isAggK (kdOf d) = true) (ad : Addr) (f : Nat → Value)
    (hc : ∀ j, j < i.size → w.cell? (ad.add j) = some (f j)) : (Instr.loadAt t (.pointer (some ad))).run P w = .ok (.agg ((List.range i.size).map f).toArray) w := by
  have h1 := run_loadCells (P := P) w ad i.size f hc
  have h2 : (isAgg t).run P w = .ok true w := by
    rcases isAggK_of hk with ⟨fs, rfl⟩ | ⟨n, e, rfl⟩ <;> simp [isAgg, run_underlying hd]
  simp [Instr.loadAt, Instr.sureAddr, loadVar, h2, sizeOf, typeInfo, hi, h1]
theorem run_loadAt_leaf {w : World} {t : TypeId} {d : TypeDesc} (hd : P.underlying t = some d) (hk : isAggK (kdOf d) = false) (ad : Addr) (v : Value)
    (hc : w.cell? ad = some v) : (Instr.loadAt t (.pointer (some ad))).run P w = .ok v w := by
  have h2 : (isAgg t).run P w = .ok false w := by
    cases d <;> simp [kdOf, isAggK] at hk <;> simp [isAgg, run_underlying hd]
  simp [Instr.loadAt, Instr.sureAddr, loadVar, h2, hc]

theorem dec_some {l : LK} {v : LV} {K : LV → Option R} {r : R} (h : dec l v K = some r) : ∃ v', K v' = some r ∧ ∀ {c : Cx} {w : Value}, Rep c v w [] → Rep c v' w [] := by
  cases l <;> simp only [dec] at h
  · obtain ⟨n, e, h2⟩ := asInt_some h; subst e; exact ⟨_, h2, fun r => r⟩
  · obtain ⟨n, e, h2⟩ := asBool_some h; subst e; exact ⟨_, h2, fun r => r⟩
  · obtain ⟨n, e, h2⟩ := asStr_some h; subst e; exact ⟨_, h2, fun r => r⟩
  · obtain ⟨n, h2, hr⟩ := asSl_some h; exact ⟨_, h2, fun r => hr r⟩
  · exact ⟨_, h, fun r => r⟩
  · exact ⟨_, h, fun r => r⟩
  · exact ⟨_, h, fun r => r⟩
  · exact ⟨_, h, fun r => r⟩
theorem decL_some : ∀ (ls : List LK) (xs : List LV) (i : Nat) (K : List LV → Option R) (r : R), decL ls xs i K = some r →
    ∃ l, K l = some r ∧ l.length = ls.length ∧ ∀ {c : Cx} (f : Nat → Value), (∀ j, j < ls.length → Rep c (xs.getD (i + j) .any) (f j) []) → ∀ j, j < ls.length → Rep c (l.getD j .any) (f j) []
  | [], xs, i, K, r, h => ⟨[], h, rfl, fun f _ j hj => absurd hj (by simp)⟩
  | l :: ls, xs, i, K, r, h => by
    simp only [decL] at h
    obtain ⟨v, h, hv⟩ := dec_some h
    obtain ⟨l', h, hlen, hl⟩ := decL_some ls xs (i + 1) _ r h
    refine ⟨v :: l', h, by simp [hlen], fun f hf j hj => ?_⟩
    cases j with
    | zero => simpa using hv (by simpa using hf 0 (by simp))
    | succ j =>
      have := hl (fun j => f (j + 1)) (fun j hj => by have := hf (j + 1) (by simp; omega); rwa [show i + 1 + j = i + (j + 1) from by omega]) j (by simp at hj; omega)
      simpa using this

theorem decT_some {t : TI} {v : LV} {K : LV → Option R} {r : R} (h : decT t v K = some r) : ∃ v', K v' = some r ∧ ∀ {c : Cx} {w : Value}, Rep c v w [] → Rep c v' w [] := by
  have agg : (mat t.lk.length v fun xs => decL t.lk xs 0 fun l => K (.agg l)) = some r → ∃ v', K v' = some r ∧ ∀ {c : Cx} {w : Value}, Rep c v w [] → Rep c v' w [] := fun h => by
    obtain ⟨xs, rfl, hxl, hm⟩ := mat_some h
    obtain ⟨l, hK, hll, hl⟩ := decL_some _ _ _ _ _ hm
    refine ⟨_, hK, fun {c w} r => ?_⟩
    cases r with
    | agg _ cs hs hr =>
      refine .agg l cs (by omega) fun i hi => ?_
      have := hl (c := c) (fun j => cs.getD j undef) (fun j hj => by rw [Nat.zero_add]; exact hr j (by omega)) i (by omega)
      exact this
  unfold decT at h
  split at h
  · exact agg h
  · exact agg h
  · split at h
    · exact dec_some h
    · cases h
theorem getD_range_map {n : Nat} (f : Nat → Value) {i : Nat} (h : i < n) : (((List.range n).map f).toArray).getD i undef = f i := by
  simp [Array.getD_eq_getD_getElem?, h]

/-- A load out of memory that never turns. -/
theorem ok_load_cptr {o : Oper} {q : Q} {t : TypeId} {ti : TI} {x : Operand} {v : LV} {n p : Nat} (ho : o.op = .load t x) (ht : tiOf P t = some ti) (hx : ev q.E x = .cptr v n p) {K : LV → Option R} {r : R}
    (h : (match isAggK ti.kd with
          | true => (match Nat.beq p 0 && Nat.beq n ti.lk.length with
            | true => decT ti v K
            | false => none)
          | false => (match Nat.blt p n with
            | true => decT ti (leaf v p) K
            | false => none)) = some r) : ∃ y, K y = some r ∧ OpOk P q o y none q := by
  obtain ⟨i, d, hi, hd, hkd, hlk, _⟩ := tiOf_und ht
  cases hk : isAggK ti.kd with
  | true =>
    rw [hk] at h
    simp only at h
    split at h
    · rename_i hb
      rw [Bool.and_eq_true] at hb
      have hp := Nat.eq_of_beq_eq_true hb.1
      have hn := Nat.eq_of_beq_eq_true hb.2
      have hm : mat ti.lk.length v (fun xs => decL ti.lk xs 0 fun l => K (.agg l)) = some r := by
        unfold decT at h
        revert h hk
        cases ti.kd <;> simp [isAggK]
      obtain ⟨xs, rfl, hxl, hm⟩ := mat_some hm
      obtain ⟨l, hK, hll, hl⟩ := decL_some _ _ _ _ _ hm
      refine ⟨.agg l, hK, op_pure fun fr a c hr => ?_⟩
      obtain ⟨O, rr⟩ := hr.evr x
      rw [hx] at rr
      generalize hv : a.eval x = z at rr
      cases rr with
      | cptr _ _ _ b off cv hle hc hI h1 hr1 =>
        subst hp
        refine ⟨.agg ((List.range i.size).map cv).toArray, ?_, ?_⟩
        · have := run_loadAt_agg (P := P) (w := c.w) hi hd (by rw [← hkd]; exact hk) ⟨b, off, none⟩ cv (fun j hj => by rw [Addr.add_lit]; exact hc j (by rw [hn, hlk]; exact hj))
          simp [execOp, ho, hv, this]
        · refine .agg l _ (by simp [hll, hlk]) (fun j hj => ?_)
          rw [getD_range_map _ (by rw [← hlk, ← hll]; exact hj)]
          exact hl cv (fun j hj => by simpa [leaf] using hr1 j (by rw [hn]; exact hj)) j (by rw [← hll]; exact hj)
    · cases h
  | false =>
    rw [hk] at h
    simp only at h
    split at h
    · rename_i hb
      have hp : p < n := Nat.lt_of_succ_le (Nat.le_of_ble_eq_true hb)
      have hm : ∃ l, ti.lk = [l] ∧ dec l (leaf v p) K = some r := by
        unfold decT at h
        revert h hk
        cases ti.kd <;> simp only [isAggK] <;> intro hk <;> try (cases hk; done)
        all_goals
          intro h
          split at h
          · exact ⟨_, by assumption, h⟩
          · cases h
      obtain ⟨l, hl, hm⟩ := hm
      obtain ⟨y, hK, hy⟩ := dec_some hm
      refine ⟨y, hK, op_pure fun fr a c hr => ?_⟩
      obtain ⟨O, rr⟩ := hr.evr x
      rw [hx] at rr
      generalize hv : a.eval x = z at rr
      cases rr with
      | cptr _ _ _ b off cv hle hc hI h1 hr1 =>
        refine ⟨cv p, ?_, hy (hr1 p hp)⟩
        have := run_loadAt_leaf (P := P) (w := c.w) hd (by rw [← hkd]; exact hk) ⟨b, off + p, none⟩ (cv p) (hc p hp)
        simp [execOp, ho, hv, this]
    · cases h

theorem RelO.fresh {fr : Fr} {q : Q} {a : Act} {c : Cx} {xs : List LV} {vs : List Value} {o : Ow} (h : RelO fr q a c xs vs o) (ob : Obj) (cells : Array Value) (e : TypeId) (_hob : ob = .cells cells e (0, 0)) (J : Nat → Prop)
    {x : LV} {v : Value} (hr : ∀ c' : Cx, c'.w = c.w.alloc ob → Ext c c' (fun _ => False) → (∀ p, c'.I c.w.heap.size p ↔ J p) → (∃ O, (O = [] ∨ O = [c.w.heap.size]) ∧ Rep c' x v O)) :
    ∃ c' o', c'.w = c.w.alloc ob ∧ RelO fr q a c' (xs ++ [x]) (vs ++ [v]) o' := by
  have hlt : ∀ b, b < c.w.heap.size → (c.w.alloc ob).heap[b]? = c.w.heap[b]? := fun b hb => by
    show (c.w.heap.push ob)[b]? = _
    rw [Array.getElem?_push, if_neg (by omega)]
  let c' : Cx := { c with I := fun b p => c.I b p ∨ (b = c.w.heap.size ∧ J p), w := c.w.alloc ob }
  have hext : Ext c c' (fun _ => False) := ⟨Nat.le_refl _, fun _ _ => rfl, fun b p hp => .inl hp, fun b p hp => World.cell?_of_block (w := c.w) (hlt b (h.sto.bd b p hp)), by show _ ≤ (c.w.heap.push ob).size; simp, fun b hb _ => hlt b hb,
    fun b p hb _ hp => by
      rcases hp with hp | hp
      · exact hp
      · omega, rfl, rfl, rfl⟩
  have hI : ∀ p, c'.I c.w.heap.size p ↔ J p := fun p => ⟨fun hp => by
    rcases hp with hp | hp
    · have := h.sto.bd _ _ hp; omega
    · exact hp.2, fun hp => .inr ⟨rfl, hp⟩⟩
  obtain ⟨O, hO, hrep⟩ := hr c' rfl hext hI
  have hmove := h.move (c' := c') hext (fun _ hf => hf.elim) rfl (fun b p hp => by
    show b < (c.w.heap.push ob).size
    rcases hp with hp | hp
    · have := h.sto.bd b p hp; simp; omega
    · simp; omega)
  have hnot : ∀ k, c.w.heap.size ∉ o k := fun k hk => by have := (h.own k _ hk).1; omega
  refine ⟨c', upd o (.arg xs.length) O, rfl, hmove.len, hmove.alen, fun t ht => ?_, hmove.al, ⟨hmove.sto.n, fun id hid => ?_, hmove.sto.bd⟩, fun i hi => ?_, by simp [hmove.flyl], ?_, hmove.ext, fun k g hg => ?_, hmove.df⟩
  · rw [upd_other _ _ (by simp)]; exact hmove.env t ht
  · rw [upd_other _ _ (by simp)]; exact hmove.sto.r id hid
  · by_cases e : i = xs.length
    · subst e; rw [upd_same, ← hmove.flyl]; simpa [List.getD_eq_getElem?_getD, hmove.flyl] using hrep
    · have hi' : i < xs.length := by simp at hi; omega
      rw [upd_other _ _ (by simp [e])]
      have := hmove.fly i hi'
      rwa [getD_app_lt _ _ _ _ hi', getD_app_lt _ _ _ _ (by rw [hmove.flyl]; exact hi')]
  · refine ⟨fun k => ?_, fun k k' g hne hg => ?_⟩
    · unfold upd; split
      · rcases hO with rfl | rfl <;> simp
      · exact h.sep.nd k
    · unfold upd at hg ⊢
      split at hg
      · rename_i hk
        split
        · rename_i hk'; exact absurd (hk.trans hk'.symm) hne
        · rcases hO with rfl | rfl
          · simp at hg
          · simp at hg; subst hg; exact hnot k'
      · split
        · rcases hO with rfl | rfl
          · simp
          · intro hm; simp at hm; subst hm; exact hnot k hg
        · exact h.sep.dj k k' g hne hg
  · unfold upd at hg
    split at hg
    · rcases hO with rfl | rfl
      · simp at hg
      · simp at hg; subst hg; exact ⟨by show _ < (c.w.heap.push ob).size; simp, .inr h.ext.size⟩
    · exact hmove.own k g hg
end
end Go.Lm
