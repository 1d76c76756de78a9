/- One operation: the interpreter's step is the machine's. -/
import Derived.Test.YtefkkflmiabfeaaGreatDoorLmD
import Derived.Laws.StructEq
import Derived.Laws.Entries
import Derived.Laws.Slices
import Derived.Laws.StructEq
set_option linter.unusedVariables false
set_option linter.unusedSimpArgs false
namespace Go.Lm
section
variable {R : Type} {P : Program} {T : Nat → Option TI} {C : Nat → Hd R}

theorem op_val {q q' : Q} {o : Oper} {x : LV} {al : Option (Nat × Nat)}
    (h : ∀ (fr : Fr) (a : Act) (c : Cx), Rel fr q a c → ∃ c' v, (execOp a.eval o).run P c.w = .ok (.value v) c'.w ∧ RelX fr q' a c' [x] [v] ∧
      ∀ e p, al = some (e, p) → e < q'.E.length ∧ ∃ g, a.tmps.getD e undef = .pointer (some ⟨g, 0, none⟩) ∧ v = .pointer (some ⟨g, p, none⟩)) : OpOk P q o x al q' := by
  intro fr a c hr next Qp hn
  obtain ⟨c', v, h1, h2, h3⟩ := h fr a c hr
  unfold Oper.wp
  rw [h1]
  exact hn c' v h2 h3
/-- A value that owns nothing, in the same world. -/
theorem op_pure {q : Q} {o : Oper} {x : LV}
    (h : ∀ (fr : Fr) (a : Act) (c : Cx), Rel fr q a c → ∃ v, (execOp a.eval o).run P c.w = .ok (.value v) c.w ∧ Rep c x v []) : OpOk P q o x none q := by
  refine op_val fun fr a c hr => ?_
  obtain ⟨v, h1, h2⟩ := h fr a c hr
  obtain ⟨ow, hr⟩ := hr
  exact ⟨c, v, h1, hr.fly1 h2, fun _ _ h => by cases h⟩
theorem Rel.evd {fr : Fr} {q : Q} {a : Act} {c : Cx} (h : Rel fr q a c) (x : Operand) : Rep c (dup (ev q.E x)) (a.eval x) [] := by
  obtain ⟨o, h⟩ := h
  exact h.evd x
theorem Rel.evr {fr : Fr} {q : Q} {a : Act} {c : Cx} (h : Rel fr q a c) (x : Operand) : ∃ O, Rep c (ev q.E x) (a.eval x) O := by
  obtain ⟨o, h⟩ := h
  exact h.evo x
theorem Rel.evInt {fr : Fr} {q : Q} {a : Act} {c : Cx} (h : Rel fr q a c) {x : Operand} {k : IntKind} {n : Int} (he : ev q.E x = .int k n) : a.eval x = .int k n := by
  obtain ⟨O, r⟩ := h.evr x
  rw [he] at r
  exact rep_int r
theorem Rel.evBool {fr : Fr} {q : Q} {a : Act} {c : Cx} (h : Rel fr q a c) {x : Operand} {b : Bool} (he : ev q.E x = .bool b) : a.eval x = .bool b := by
  obtain ⟨O, r⟩ := h.evr x
  rw [he] at r
  exact rep_bool r
theorem Rel.evStr {fr : Fr} {q : Q} {a : Act} {c : Cx} (h : Rel fr q a c) {x : Operand} {s : ByteArray} (he : ev q.E x = .str s) : a.eval x = .string s := by
  obtain ⟨O, r⟩ := h.evr x
  rw [he] at r
  exact rep_str r

theorem ok_move {o : Oper} {q : Q} {x : Operand} (ho : o.op = .move x) : OpOk P q o (dup (ev q.E x)) none q :=
  op_pure fun fr a c hr => ⟨a.eval x, by simp [execOp, ho], hr.evd x⟩
theorem ok_assign {o : Oper} {q : Q} {x : Operand} (ho : o.op = .assign x) : OpOk P q o (ev q.E x) none (q.used x) :=
  op_val fun fr a c hr => ⟨c, a.eval x, by simp [execOp, ho], by
    obtain ⟨ow, hr⟩ := hr
    exact hr.take x, fun _ _ h => by cases h⟩
theorem ok_pick {o : Oper} {q : Q} {cc x y : Operand} {b : Bool} (ho : o.op = .pick cc x y) (hb : ev q.E cc = .bool b) : OpOk P q o (dup (ev q.E (if b then x else y))) none q :=
  op_pure fun fr a c hr => ⟨a.eval (if b then x else y), by
    have := hr.evBool hb
    cases b <;> simp [execOp, ho, this, Go.asBool], hr.evd _⟩

theorem intBin_some {op : BinOp} {k : IntKind} {m n : Int} {K : LV → Option R} {r : R} (h : intBin op k m n K = some r) :
    ∃ x, K x = some r ∧ ∀ (t : TypeId) (x' y' : Operand) (w : World) (c : Cx), ∃ v, (do eqGuard op t x' y' (.int k m) (.int k n); binOp op t (.int k m) (.int k n) : Sem Value).run P w = .ok v w ∧ Rep c x v [] := by
  cases op <;> simp only [intBin] at h <;> try (cases h; done)
  case quo =>
    rcases ifB_some h with ⟨_, h2⟩ | ⟨h1, h2⟩
    · cases h2
    · have h1 := of_decide_eq_false h1
      refine ⟨_, h2, fun t x' y' w c => ⟨_, ?_, .int _ _⟩⟩
      simp [eqGuard, binOp, Op.intDiv, h1]
  case rem =>
    rcases ifB_some h with ⟨_, h2⟩ | ⟨h1, h2⟩
    · cases h2
    · have h1 := of_decide_eq_false h1
      refine ⟨_, h2, fun t x' y' w c => ⟨_, ?_, .int _ _⟩⟩
      simp [eqGuard, binOp, Op.intDiv, h1]
  all_goals
    refine ⟨_, h, fun t x' y' w c => ⟨_, ?_, by first | exact .int _ _ | exact .bool _⟩⟩
    simp [eqGuard, binOp, Op.intArith, Op.intCmp, Op.intBits, bitI]
    try rfl
theorem shift_run {op : BinOp} {k k' : IntKind} {m n : Int} (hs : isShift op = true) (hn : ¬ n < 0) (t : TypeId) (x' y' : Operand) (w : World) :
    (do eqGuard op t x' y' (.int k m) (.int k' n); binOp op t (.int k m) (.int k' n) : Sem Value).run P w = .ok (.int k (shI op k m n)) w := by
  cases op <;> simp [isShift] at hs <;> simp [eqGuard, binOp, Op.shift, hn, shI]
theorem strBin_some {op : BinOp} {m n : ByteArray} {K : LV → Option R} {r : R} (h : strBin op m n K = some r) :
    ∃ x, K x = some r ∧ ∀ (t : TypeId) (x' y' : Operand) (w : World) (c : Cx), ∃ v, (do eqGuard op t x' y' (.string m) (.string n); binOp op t (.string m) (.string n) : Sem Value).run P w = .ok v w ∧ Rep c x v [] := by
  cases op <;> simp only [strBin] at h <;> try (cases h; done)
  case add =>
    unfold catStr at h
    rcases ifB_some h with ⟨h1, h⟩ | ⟨_, h⟩
    · refine ⟨_, h, fun t x' y' w c => ⟨.string (m ++ n), ?_, .str _⟩⟩
      have h1 := of_decide_eq_true h1
      have : ¬ (9223372036854775807 < ((m.size : Int) + (n.size : Int))) := by omega
      simp [eqGuard_at_string, binOp, Op.stringOp, this]
    · cases h
  all_goals
    refine ⟨_, h, fun t x' y' w c => ⟨_, ?_, by first | exact .bool _⟩⟩
    simp [eqGuard_at_string, binOp, Op.stringOp, strEq, strLt]
    try rfl
theorem boolBin_some {op : BinOp} {m n : Bool} {K : LV → Option R} {r : R} (h : boolBin op m n K = some r) :
    ∃ x, K x = some r ∧ ∀ (t : TypeId) (_ : P.underlying t = some .bool) (x' y' : Operand) (w : World) (c : Cx), ∃ v, (do eqGuard op t x' y' (.bool m) (.bool n); binOp op t (.bool m) (.bool n) : Sem Value).run P w = .ok v w ∧ Rep c x v [] := by
  have e : ∀ t w, P.underlying t = some .bool → (Op.equal t (.bool m) (.bool n)).run P w = .ok (m == n) w := fun t w ht => run_equalIn_bool' w 9999 t m n ht
  cases op <;> simp only [boolBin] at h <;> try (cases h; done)
  · refine ⟨_, h, fun t ht x' y' w c => ⟨.bool (m == n), ?_, .bool _⟩⟩
    rw [eqGuard_at_bool]
    show ((do pure (.bool (← Op.equal t (.bool m) (.bool n))) : Sem Value)).run P w = _
    simp [e t w ht]
  · refine ⟨_, h, fun t ht x' y' w c => ⟨.bool (!(m == n)), ?_, .bool _⟩⟩
    rw [eqGuard_at_bool]
    show ((do pure (.bool (!(← Op.equal t (.bool m) (.bool n)))) : Sem Value)).run P w = _
    simp [e t w ht]

theorem tiOf_und {t : TypeId} {ti : TI} (h : tiOf P t = some ti) : ∃ i d, P.info? t = some i ∧ P.underlying t = some d ∧ ti.kd = kdOf d ∧ ti.lk.length = i.size ∧ ∃ z, i.zero = some z ∧ z.cells.size = i.size ∧ (∀ p, p < z.cells.size → (z.cells.getD p undef).oneCell' = true) ∧ ti.zero = z.cells.toList.map ofVal := by
  unfold tiOf at h
  split at h
  · rename_i i d hi hd
    split at h
    · rename_i z hz hl
      have hz' : ∃ z', i.zero = some z' ∧ z'.cells.size = i.size ∧ (∀ p, p < z'.cells.size → (z'.cells.getD p undef).oneCell' = true) ∧ z = z'.cells.toList.map ofVal := by
        unfold zeroOk at hz
        split at hz
        · rename_i z' hz'
          split at hz
          · rename_i hb
            cases hz
            rw [Bool.and_eq_true] at hb
            refine ⟨z', hz', Nat.eq_of_beq_eq_true hb.1, fun p hp => ?_, rfl⟩
            have := (Array.all_eq_true.1 hb.2) p hp
            simpa [Array.getD_eq_getD_getElem?, hp] using this
          · cases hz
        · cases hz
      obtain ⟨z', h1, h2, h3, h4⟩ := hz'
      have hl := Nat.eq_of_beq_eq_true hl
      refine ⟨i, d, hi, hd, ?_⟩
      split at h
      · split at h
        · cases h; exact ⟨rfl, hl, z', h1, h2, h3, h4⟩
        · cases h
      · split at h
        · cases h; exact ⟨rfl, hl, z', h1, h2, h3, h4⟩
        · cases h
      · cases h; exact ⟨rfl, hl, z', h1, h2, h3, h4⟩
      · cases h; exact ⟨rfl, hl, z', h1, h2, h3, h4⟩
      · cases h; exact ⟨rfl, hl, z', h1, h2, h3, h4⟩
    · cases h
  · cases h
theorem tiOf_slice {t : TypeId} {ti : TI} (h : tiOf P t = some ti) (hk : ti.kd = .slice) : ∃ e j, P.underlying t = some (.slice e) ∧ P.info? e = some j ∧ ti.esz = j.size ∧ ti.ebytes = j.bytes ∧ ti.el = e ∧ ∃ z, j.zero = some z ∧ z.cells.size = j.size ∧ ∀ p, p < z.cells.size → (z.cells.getD p undef).oneCell' = true := by
  unfold tiOf at h
  split at h
  · rename_i i d hi hd
    split at h
    · split at h
      · rename_i e
        split at h
        · rename_i j zz hj hz
          cases h
          refine ⟨e, j, hd, hj, rfl, rfl, rfl, ?_⟩
          rw [hj] at hz
          simp only [Option.bind_some] at hz
          unfold zeroOk at hz
          split at hz
          · rename_i z' hz'
            split at hz
            · rename_i hb
              rw [Bool.and_eq_true] at hb
              refine ⟨z', hz', Nat.eq_of_beq_eq_true hb.1, fun p hp => ?_⟩
              have := (Array.all_eq_true.1 hb.2) p hp
              simpa [Array.getD_eq_getD_getElem?, hp] using this
            · cases hz
          · cases hz
        · cases h
      · split at h
        · cases h; cases hk
        · cases h
      · cases h; cases hk
      · cases h; cases hk
      · rename_i d' _ _ _ _
        cases h
        exfalso
        cases d <;> simp [kdOf] at hk <;> simp_all
    · cases h
  · cases h
theorem kdOf_int {d : TypeDesc} {k : IntKind} (h : KD.int k = kdOf d) : d = .int k := by cases d <;> simp [kdOf] at h; rw [h]
theorem kdOf_str {d : TypeDesc} (h : KD.str = kdOf d) : d = .string := by cases d <;> simp [kdOf] at h; rfl
theorem kdOf_bool {d : TypeDesc} (h : KD.bool = kdOf d) : d = .bool := by cases d <;> simp [kdOf] at h; rfl

theorem kdOf_slice {d : TypeDesc} (h : KD.slice = kdOf d) : ∃ e, d = .slice e := by cases d <;> simp [kdOf] at h; exact ⟨_, rfl⟩
theorem asI_some {v : LV} {K : Int → Option R} {r : R} (h : asI v K = some r) : ∃ k n, v = .int k n ∧ K n = some r := by
  cases v <;> simp [asI] at h
  exact ⟨_, _, rfl, h⟩
theorem isNil_some {v : LV} {K : Bool → Option R} {r : R} (h : isNil v K = some r) :
    ∃ b, K b = some r ∧ ∀ {c : Cx} {w : Value} {O : List Nat}, Rep c v w O → ∃ a n cap, w = .slice a n cap ∧ b = a.isNone := by
  unfold isNil at h
  split at h
  · exact ⟨_, h, fun r => by cases r; exact ⟨_, _, _, rfl, rfl⟩⟩
  · exact ⟨_, h, fun r => by cases r; subst_vars; exact ⟨_, _, _, rfl, rfl⟩⟩
  · exact ⟨_, h, fun r => by cases r; exact ⟨_, _, _, rfl, rfl⟩⟩
  · exact ⟨_, h, fun r => by cases r; exact ⟨_, _, _, rfl, rfl⟩⟩
  · exact ⟨_, h, fun r => by cases r; exact ⟨_, _, _, rfl, rfl⟩⟩
  · cases h
theorem nilEq (d : Nat) {t e : TypeId} (ht : P.underlying t = some (.slice e)) (a : Option Addr) (n cap : Nat) (w : World) : (Op.equalIn (d + 1) t (.slice a n cap) (.slice none 0 0)).run P w = .ok a.isNone w := by
  cases a <;> simp [Op.equalIn, run_underlying ht]
theorem boolBin_nil {op : BinOp} {b : Bool} {K : LV → Option R} {r : R} (h : boolBin op b true K = some r) :
    ∃ x, K x = some r ∧ ∀ (t e : TypeId), P.underlying t = some (.slice e) → ∀ (x' y' : Operand) (a : Option Addr) (n cap : Nat), b = a.isNone → ∀ (w : World) (c : Cx),
      ∃ v, (do eqGuard op t x' y' (.slice a n cap) (.slice none 0 0); binOp op t (.slice a n cap) (.slice none 0 0) : Sem Value).run P w = .ok v w ∧ Rep c x v [] := by
  cases op <;> simp only [boolBin] at h <;> try (cases h; done)
  all_goals
    refine ⟨_, h, fun t e ht x' y' a n cap hb w c => ⟨_, ?_, .bool _⟩⟩
    subst hb
    simp only [binOp, Op.equal, Op.maxDepth]
    rw [Sem.run_bind]
    simp [eqGuard, nilEq _ ht]
theorem isNilP_some {v : LV} {K : Bool → Option R} {r : R} (h : isNilP v K = some r) :
    ∃ b, K b = some r ∧ ∀ {c : Cx} {w : Value} {O : List Nat}, Rep c v w O → ∃ a, w = .pointer a ∧ b = a.isNone := by
  unfold isNilP at h
  split at h
  · exact ⟨_, h, fun r => by cases r; exact ⟨_, rfl, rfl⟩⟩
  · exact ⟨_, h, fun r => by cases r; exact ⟨_, rfl, rfl⟩⟩
  · exact ⟨_, h, fun r => by cases r; exact ⟨_, rfl, rfl⟩⟩
  · cases h
theorem kdOf_ptr {d : TypeDesc} (h : KD.ptr = kdOf d) : ∃ e, d = .pointer e := by cases d <;> simp [kdOf] at h; exact ⟨_, rfl⟩
theorem nilEqP (d : Nat) {t e : TypeId} (ht : P.underlying t = some (.pointer e)) (a : Option Addr) (w : World) : (Op.equalIn (d + 1) t (.pointer a) (.pointer none)).run P w = .ok a.isNone w := by
  cases a <;> simp [Op.equalIn, run_underlying ht]
theorem boolBin_nilP {op : BinOp} {b : Bool} {K : LV → Option R} {r : R} (h : boolBin op b true K = some r) :
    ∃ x, K x = some r ∧ ∀ (t e : TypeId), P.underlying t = some (.pointer e) → ∀ (x' y' : Operand) (a : Option Addr), b = a.isNone → ∀ (w : World) (c : Cx),
      ∃ v, (do eqGuard op t x' y' (.pointer a) (.pointer none); binOp op t (.pointer a) (.pointer none) : Sem Value).run P w = .ok v w ∧ Rep c x v [] := by
  cases op <;> simp only [boolBin] at h <;> try (cases h; done)
  all_goals
    refine ⟨_, h, fun t e ht x' y' a hb w c => ⟨_, ?_, .bool _⟩⟩
    subst hb
    simp only [binOp, Op.equal, Op.maxDepth]
    rw [Sem.run_bind]
    simp [eqGuard, nilEqP _ ht]
theorem rep_nilp {c : Cx} {v : Value} {O : List Nat} (h : Rep c .nilp v O) : v = .pointer none := by cases h; rfl
theorem rep_nilsl {c : Cx} {v : Value} {O : List Nat} (h : Rep c .nilsl v O) : v = .slice none 0 0 := by cases h; rfl
theorem rep_agg {c : Cx} {xs : List LV} {v : Value} {O : List Nat} (h : Rep c (.agg xs) v O) : ∃ cs, v = .agg cs ∧ cs.size = xs.length ∧ ∀ i, i < xs.length → Rep c (xs.getD i .any) (cs.getD i undef) [] := by
  cases h; exact ⟨_, rfl, by assumption, by assumption⟩
theorem boolBin_struct {op : BinOp} {b : Bool} {K : LV → Option R} {r : R} (h : boolBin op b true K = some r) :
    ∃ x, K x = some r ∧ ∀ (t : TypeId) (x' y' : Operand) (cs ds : Array Value) (w : World), (Op.equalIn 10000 t (.agg cs) (.agg ds)).run P w = .ok b w → P.eqGuardType P.depth t = false → ∀ (c : Cx),
      ∃ v, (do eqGuard op t x' y' (.agg cs) (.agg ds); binOp op t (.agg cs) (.agg ds) : Sem Value).run P w = .ok v w ∧ Rep c x v [] := by
  cases op <;> simp only [boolBin] at h <;> try (cases h; done)
  all_goals
    refine ⟨_, h, fun t x' y' cs ds w he hg c => ⟨_, ?_, .bool _⟩⟩
    rw [Sem.run_bind, run_eqGuard_agg w _ t x' y' cs ds hg]
    simp only [Result.andThen_ok]
    first | rw [run_eql_struct] | rw [run_neq_struct]
    rw [he]
    simp [Result.andThen_ok]
theorem tiOf_eq {t : TypeId} {ti : TI} {ls : List LK} (h : tiOf P t = some ti) (hl : ti.eq = some ls) : ∃ fs, P.underlying t = some (.struct fs) ∧ P.stoodInHeld t = false ∧ P.eqGuardType P.depth t = false ∧ eqKs P 0 fs.toList = some ls := by
  unfold tiOf at h
  split at h
  · rename_i i d hi hd
    split at h
    · split at h
      · split at h
        · cases h; cases hl
        · cases h
      · rename_i fs
        split at h
        · cases h
          simp only [structEq] at hl
          split at hl
          · rename_i hz
            simp only [Bool.and_eq_true, Bool.not_eq_true'] at hz
            exact ⟨fs, hd, hz.1, hz.2, hl⟩
          · cases hl
        · cases h
      · cases h; cases hl
      · cases h; cases hl
      · cases h; cases hl
    · cases h
  · cases h
theorem part_one {t : TypeId} {d : TypeDesc} (hd : P.underlying t = some d) (hk : isAggK (kdOf d) = false) (cs : Array Value) (i : Nat) (hi : i < cs.size) (w : World) : (Go.part t cs i).run P w = .ok (cs.getD i undef) w := by
  have h2 : (isAgg t).run P w = .ok false w := by
    cases d <;> simp [kdOf, isAggK] at hk <;> simp [isAgg, run_underlying hd]
  simp [Go.part, h2, hi, Array.getD_eq_getD_getElem?]
theorem eqLs_run : ∀ {i : Nat} {fs : List Field} {ls : List LK} {xs ys : List LV} {K : Bool → Option R} {r : R}, eqKs P i fs = some ls → eqLs ls xs ys K = some r →
    ∃ b, K b = some r ∧ ∀ {c : Cx} {cs ds : Array Value}, (∀ j, j < ls.length → Rep c (xs.getD j .any) (cs.getD (i + j) undef) []) → (∀ j, j < ls.length → Rep c (ys.getD j .any) (ds.getD (i + j) undef) []) →
      i + ls.length ≤ cs.size → i + ls.length ≤ ds.size → ∀ (d : Nat) (w : World), (Op.eqFields (d + 1) cs ds fs).run P w = .ok b w
  | i, [], ls, xs, ys, K, r, hk, h => by
    cases hk
    cases xs <;> cases ys <;> simp only [eqLs] at h <;> try (cases h; done)
    exact ⟨true, h, fun _ _ _ _ d w => by simp [Op.eqFields]⟩
  | i, f :: fs, ls, xs, ys, K, r, hk, h => by
    simp only [eqKs] at hk
    have fin : ∀ {l : LK} {x y : LV} {xs ys : List LV} {ls : List LK} {e : Bool} {dd : TypeDesc} (ho : (Nat.beq f.offset i && !(f.name == "_")) = true) (hd : P.underlying f.type = some dd) (ha : isAggK (kdOf dd) = false)
        (hks : eqKs P (i + 1) fs = some ls) (h : eqLs ls xs ys (fun r => K (e && r)) = some r)
        (he : ∀ {c : Cx} {u v : Value}, Rep c x u [] → Rep c y v [] → ∀ (d : Nat) (w : World), (Op.equalIn (d + 1) f.type u v).run P w = .ok e w),
        ∃ b, K b = some r ∧ ∀ {c : Cx} {cs ds : Array Value}, (∀ j, j < (l :: ls).length → Rep c ((x :: xs).getD j .any) (cs.getD (i + j) undef) []) → (∀ j, j < (l :: ls).length → Rep c ((y :: ys).getD j .any) (ds.getD (i + j) undef) []) →
          i + (l :: ls).length ≤ cs.size → i + (l :: ls).length ≤ ds.size → ∀ (d : Nat) (w : World), (Op.eqFields (d + 1) cs ds (f :: fs)).run P w = .ok b w := by
      intro l x y xs ys ls e dd ho hd ha hks h he
      obtain ⟨b, h, hb⟩ := eqLs_run hks h
      simp only [Bool.and_eq_true, Bool.not_eq_true'] at ho
      have hoff := Nat.eq_of_beq_eq_true ho.1
      have hn : f.name ≠ "_" := by simpa using ho.2
      refine ⟨e && b, h, fun hx hy hc hdz d w => ?_⟩
      rename_i c cs ds
      simp only [List.length_cons] at hx hy hc hdz
      have hx0 := hx 0 (by omega)
      have hy0 := hy 0 (by omega)
      simp only [Nat.add_zero, List.getD_cons_zero] at hx0 hy0
      have rest := hb (c := c) (cs := cs) (ds := ds) (fun j hj => by have := hx (j + 1) (by omega); rw [List.getD_cons_succ] at this; rwa [show i + 1 + j = i + (j + 1) by omega]) (fun j hj => by have := hy (j + 1) (by omega); rw [List.getD_cons_succ] at this; rwa [show i + 1 + j = i + (j + 1) by omega]) (by omega) (by omega) d w
      rw [Op.eqFields]
      simp only [if_pos hn, Sem.run_bind, hoff, part_one hd ha cs i (by omega), part_one hd ha ds i (by omega), he hx0 hy0 d w, Result.andThen_ok]
      cases e
      · simp
      · simpa using rest
    split at hk
    · rename_i k ho hd
      obtain ⟨ls', hks, rfl⟩ := Option.map_eq_some_iff.1 hk
      cases xs <;> cases ys <;> simp only [eqLs] at h <;> try (cases h; done)
      obtain ⟨m, hm, h1⟩ := asInt_some h
      obtain ⟨n, hn, h2⟩ := asInt_some h1
      subst hm
      subst hn
      exact fin (l := .int k) ho hd rfl hks h2 fun u v d w => by rw [rep_int u, rep_int v]; exact run_equalIn_int w d f.type k k m n hd
    · rename_i ho hd
      obtain ⟨ls', hks, rfl⟩ := Option.map_eq_some_iff.1 hk
      cases xs <;> cases ys <;> simp only [eqLs] at h <;> try (cases h; done)
      obtain ⟨m, hm, h1⟩ := asBool_some h
      obtain ⟨n, hn, h2⟩ := asBool_some h1
      subst hm
      subst hn
      exact fin (l := .bool) ho hd rfl hks h2 fun u v d w => by rw [rep_bool u, rep_bool v]; exact run_equalIn_bool' w d f.type m n hd
    · rename_i ho hd
      obtain ⟨ls', hks, rfl⟩ := Option.map_eq_some_iff.1 hk
      cases xs <;> cases ys <;> simp only [eqLs] at h <;> try (cases h; done)
      obtain ⟨m, hm, h1⟩ := asStr_some h
      obtain ⟨n, hn, h2⟩ := asStr_some h1
      subst hm
      subst hn
      exact fin (l := .str) ho hd rfl hks h2 fun u v d w => by rw [rep_str u, rep_str v]; exact run_equalIn_string w d f.type m n hd
    · cases hk
theorem ok_binop {o : Oper} {q : Q} {op : BinOp} {t yt : TypeId} {x y : Operand} (ho : o.op = .binOp op t x y yt) {ti : TI} (ht : tiOf P t = some ti) {K : LV → Option R} {r : R}
    (h : binop ti op (ev q.E x) (ev q.E y) K = some r) : ∃ v, K v = some r ∧ OpOk P q o v none q := by
  obtain ⟨i, d, hi, hd, hkd, _⟩ := tiOf_und ht
  have run : ∀ (a : Act) (w : World), (execOp a.eval o).run P w = ((do eqGuard op t x y (a.eval x) (a.eval y); binOp op t (a.eval x) (a.eval y) : Sem Value).run P w).andThen fun v w' => .ok (.value v) w' := by
    intro a w
    simp [execOp, ho]
    cases Sem.run P (eqGuard op t x y (a.eval x) (a.eval y)) w <;> rfl
  unfold binop at h
  split at h
  · split at h
    · rename_i hs
      obtain ⟨m, hm, h⟩ := asInt_some h
      obtain ⟨k', n, hn, h⟩ := asI_some h
      rcases ifB_some h with ⟨_, h⟩ | ⟨hz, h⟩
      · cases h
      · exact ⟨_, h, op_pure fun fr a c hr => ⟨_, by rw [run, hr.evInt hm, hr.evInt hn, shift_run hs (of_decide_eq_false hz)]; rfl, .int _ _⟩⟩
    · obtain ⟨m, hm, h⟩ := asInt_some h
      obtain ⟨n, hn, h⟩ := asInt_some h
      obtain ⟨v, h, hv⟩ := intBin_some (P := P) h
      refine ⟨v, h, op_pure fun fr a c hr => ?_⟩
      obtain ⟨v', h1, h2⟩ := hv t x y c.w c
      exact ⟨v', by rw [run, hr.evInt hm, hr.evInt hn, h1]; rfl, h2⟩
  · obtain ⟨m, hm, h⟩ := asStr_some h
    obtain ⟨n, hn, h⟩ := asStr_some h
    obtain ⟨v, h, hv⟩ := strBin_some (P := P) h
    refine ⟨v, h, op_pure fun fr a c hr => ?_⟩
    obtain ⟨v', h1, h2⟩ := hv t x y c.w c
    exact ⟨v', by rw [run, hr.evStr hm, hr.evStr hn, h1]; rfl, h2⟩
  · rename_i hk
    rw [hk] at hkd
    obtain rfl := kdOf_bool hkd
    obtain ⟨m, hm, h⟩ := asBool_some h
    obtain ⟨n, hn, h⟩ := asBool_some h
    obtain ⟨v, h, hv⟩ := boolBin_some (P := P) h
    refine ⟨v, h, op_pure fun fr a c hr => ?_⟩
    obtain ⟨v', h1, h2⟩ := hv t hd x y c.w c
    exact ⟨v', by rw [run, hr.evBool hm, hr.evBool hn, h1]; rfl, h2⟩
  · rename_i hk
    split at h
    · rename_i ls hls
      obtain ⟨xs, hx, hxl, h⟩ := mat_some h
      obtain ⟨ys, hy, hyl, h⟩ := mat_some h
      obtain ⟨fs, hd', h1, h2, hks⟩ := tiOf_eq ht hls
      obtain ⟨b, h, hb⟩ := eqLs_run hks h
      obtain ⟨v, h, hv⟩ := boolBin_struct (P := P) h
      refine ⟨v, h, op_pure fun fr a c hr => ?_⟩
      obtain ⟨O, hrx⟩ := hr.evr x
      obtain ⟨O', hry⟩ := hr.evr y
      rw [hx] at hrx
      rw [hy] at hry
      obtain ⟨cs, e1, hcs⟩ := rep_agg hrx
      obtain ⟨ds, e2, hds⟩ := rep_agg hry
      have hr := hb (c := c) (cs := cs) (ds := ds) (fun j hj => by rw [Nat.zero_add]; exact hcs.2 j (by omega)) (fun j hj => by rw [Nat.zero_add]; exact hds.2 j (by omega)) (by omega) (by omega) 9998 c.w
      obtain ⟨v', h3, h4⟩ := hv t x y cs ds c.w (by
        rw [run_equalIn_struct (P := P) c.w 9999 t cs ds (by simp [Program.fieldsOf, hd']) h1]
        simpa [Program.fieldsOf, hd'] using hr) h2 c
      exact ⟨v', by rw [run, e1, e2, h3]; rfl, h4⟩
    · cases h
  · rename_i hk
    split at h
    · rename_i hy
      rw [hk] at hkd
      obtain ⟨e, rfl⟩ := kdOf_slice hkd
      obtain ⟨b, h, hb⟩ := isNil_some h
      obtain ⟨v, h, hv⟩ := boolBin_nil (P := P) h
      refine ⟨v, h, op_pure fun fr a c hr => ?_⟩
      obtain ⟨O, hrx⟩ := hr.evr x
      obtain ⟨O', hry⟩ := hr.evr y
      rw [hy] at hry
      obtain ⟨b', n, cap, e1, e2⟩ := hb hrx
      have e3 : a.eval y = .slice none 0 0 := rep_nilsl hry
      obtain ⟨v', h1, h2⟩ := hv t e hd x y b' n cap e2 c.w c
      exact ⟨v', by rw [run, e1, e3, h1]; rfl, h2⟩
    · cases h
  · rename_i hk
    split at h
    · rename_i hy
      rw [hk] at hkd
      obtain ⟨e, rfl⟩ := kdOf_ptr hkd
      obtain ⟨b, h, hb⟩ := isNilP_some h
      obtain ⟨v, h, hv⟩ := boolBin_nilP (P := P) h
      refine ⟨v, h, op_pure fun fr a c hr => ?_⟩
      obtain ⟨O, hrx⟩ := hr.evr x
      obtain ⟨O', hry⟩ := hr.evr y
      rw [hy] at hry
      obtain ⟨b', e1, e2⟩ := hb hrx
      have e3 : a.eval y = .pointer none := rep_nilp hry
      obtain ⟨v', h1, h2⟩ := hv t e hd x y b' e2 c.w c
      exact ⟨v', by rw [run, e1, e3, h1]; rfl, h2⟩
    · cases h
  · cases h
end
end Go.Lm
