/- One operation: strings, slices that are read, addresses. -/
import Derived.Test.YtefkkflmiabfeaaGreatDoorLmE
import Derived.Laws.CopyRow
import Derived.Laws.Build
import Derived.Laws.Tables
set_option linter.unusedVariables false
set_option linter.unusedSimpArgs false
namespace Go.Lm
section
variable {R : Type} {P : Program} {T : Nat → Option TI} {C : Nat → Hd R}

theorem rep_sl {c : Cx} {sz : Nat} {xs : List LV} {v : Value} {O : List Nat} (h : Rep c (.sl sz xs) v O) :
    ∃ A cap, v = .slice A xs.length cap ∧ xs.length ≤ cap ∧ xs.length ≤ 9223372036854775807 ∧ (0 < xs.length → ∃ (b off : Nat) (cv : Nat → Value), A = some ⟨b, off, none⟩ ∧
      (∀ p, p < xs.length * sz → c.w.cell? ⟨b, off + p, none⟩ = some (cv p)) ∧ (∀ p, p < xs.length * sz → c.I b (off + p)) ∧ (∀ p, p < xs.length * sz → (cv p).oneCell' = true) ∧
      (∀ p, p < xs.length * sz → Rep c (leaf (xs.getD (p / sz) .any) (p % sz)) (cv p) [])) := by
  cases h with
  | sl0 _ a cap _ => exact ⟨a, cap, rfl, Nat.zero_le _, by simp, fun h => absurd h (by simp)⟩
  | sl _ b off cap _ cv hcap hmax hc hI h1 hr => exact ⟨_, cap, rfl, hcap, hmax, fun _ => ⟨b, off, cv, rfl, hc, hI, h1, hr⟩⟩

theorem rep_sl_nil {c : Cx} {sz : Nat} {xs : List LV} {n cap : Nat} {O : List Nat} (h : Rep c (.sl sz xs) (.slice none n cap) O) : xs = [] ∧ n = 0 ∧ cap = 0 := by
  cases h with
  | sl0 _ _ _ hn => exact ⟨rfl, rfl, hn rfl⟩

theorem ok_not {o : Oper} {q : Q} {t : TypeId} {x : Operand} {b : Bool} (ho : o.op = .unOp .not t x) (hb : ev q.E x = .bool b) : OpOk P q o (.bool (!b)) none q :=
  op_pure fun fr a c hr => ⟨.bool (!b), by simp [execOp, ho, hr.evBool hb, Op.unary], .bool _⟩

theorem run_call_builtin {o : Oper} {a : Act} {w w' : World} {b : Builtin} {as : Array Operand} {ts : Array TypeId} {v : Value} (ho : o.op = .call { callee := .builtin b, args := as, argTypes := ts })
    (h : (builtin b ts o.type (as.map fun | .const _ => true | _ => false) (as.map a.eval)).run P w = .ok (.value v) w') : (execOp a.eval o).run P w = .ok (.value v) w' := by
  simp [execOp, ho, resolve, invoke]
  exact h

theorem ok_lenStr {o : Oper} {q : Q} {x : Operand} {ts : Array TypeId} {t : TypeId} {s : ByteArray} (ho : o.op = .call { callee := .builtin .len, args := #[x], argTypes := ts })
    (ht : ts[0]? = some t) (hd : P.underlying t = some .string) (hx : ev q.E x = .str s) : OpOk P q o (.int .i64 s.size) none q :=
  op_pure fun fr a c hr => ⟨.int .i64 s.size, run_call_builtin ho (by
    simp [builtin, Builtin.len_, ht, run_underlying hd, hr.evStr hx, goInt]), .int _ _⟩
theorem ok_min {o : Oper} {q : Q} {x y : Operand} {ts : Array TypeId} {k k' : IntKind} {m n : Int} (ho : o.op = .call { callee := .builtin .min, args := #[x, y], argTypes := ts })
    (hx : ev q.E x = .int k m) (hy : ev q.E y = .int k' n) : OpOk P q o (.int k (minI m n)) none q :=
  op_pure fun fr a c hr => ⟨.int k (minI m n), run_call_builtin ho (by
    simp [builtin, hr.evInt hx, hr.evInt hy, Builtin.min_, Builtin.min2, minI]), .int _ _⟩
theorem ok_lenSl {o : Oper} {q : Q} {x : Operand} {ts : Array TypeId} {t e : TypeId} {n : Nat} (ho : o.op = .call { callee := .builtin .len, args := #[x], argTypes := ts })
    (ht : ts[0]? = some t) (hd : P.underlying t = some (.slice e)) (hx : ∀ {c : Cx} {w : Value} {O : List Nat}, Rep c (ev q.E x) w O → ∃ A cap, w = .slice A n cap) : OpOk P q o (.int .i64 n) none q :=
  op_pure fun fr a c hr => ⟨.int .i64 n, run_call_builtin ho (by
    obtain ⟨O, r⟩ := hr.evr x
    obtain ⟨A, cap, h⟩ := hx r
    simp [builtin, Builtin.len_, ht, run_underlying hd, h, goInt]), .int _ _⟩

theorem ok_convInt {o : Oper} {q : Q} {x : Operand} {s t : TypeId} {k k' : IntKind} {n : Int} (ho : o.op = .convert s t x)
    (hs : P.underlying s = some (.int k)) (ht : P.underlying t = some (.int k')) (hx : ev q.E x = .int k n) : OpOk P q o (.int k' (k'.wrap n)) none q :=
  op_pure fun fr a c hr => ⟨.int k' (k'.wrap n), by
    simp [execOp, ho, convert, run_underlying hs, run_underlying ht, hr.evInt hx, Conv.intToInt], .int _ _⟩
theorem ok_convStr {o : Oper} {q : Q} {x : Operand} {s t : TypeId} {b : ByteArray} (ho : o.op = .convert s t x)
    (hs : P.underlying s = some .string) (ht : P.underlying t = some .string) (hx : ev q.E x = .str b) : OpOk P q o (.str b) none q :=
  op_pure fun fr a c hr => ⟨.string b, by
    simp [execOp, ho, convert, run_underlying hs, run_underlying ht, hr.evStr hx], .str _⟩

theorem ok_idxStr {o : Oper} {q : Q} {t : TypeId} {x i : Operand} {s : ByteArray} {n : Int} (ho : o.op = .index t x i) (hd : P.underlying t = some .string) (hx : ev q.E x = .str s) {ki : IntKind} (hi : ev q.E i = .int ki n)
    (h0 : 0 ≤ n) (h1 : n < s.size) : OpOk P q o (.int .u8 (bt s n)) none q :=
  op_pure fun fr a c hr => ⟨.int .u8 (bt s n), by
    have hlt : n.toNat < s.size := by omega
    simp [execOp, ho, Instr.index, hr.evStr hx, hr.evInt hi, asIntOf, run_underlying hd, h0, bt, hlt], .int _ _⟩

/-- The bounds of a cut, as they stand in the slots. -/
def optInt (E : List LV) (x : Option Operand) (d n : Int) : Prop := match x with
  | some x => ∃ k, ev E x = .int k n
  | none => n = d
theorem intOr_some {E : List LV} {x : Option Operand} {d : Int} {K : Int → Option R} {r : R} (h : intOr E x d K = some r) : ∃ n, optInt E x d n ∧ K n = some r := by
  cases x with
  | none => exact ⟨d, rfl, h⟩
  | some x => obtain ⟨k, n, hn, h⟩ := asI_some h; exact ⟨n, ⟨k, hn⟩, h⟩
theorem run_bounds {fr : Fr} {q : Q} {a : Act} {c : Cx} (hr : Rel fr q a c) (isSlice : Bool) (len cap : Nat) (lo hi : Option Operand) (l h : Int) (hl : optInt q.E lo 0 l) (hh : optInt q.E hi len h)
    (h0 : 0 ≤ l) (h1 : l ≤ h) (h2 : h ≤ len) (h3 : len ≤ cap) : (Instr.sliceBounds isSlice len cap (lo.map a.eval) (hi.map a.eval) none).run P c.w = .ok (l.toNat, h.toNat, cap) c.w := by
  have b1 : ∀ (k : IntKind) (i : Int) (y : Nat) (code : BoundsCode), 0 ≤ i → i ≤ y → (Instr.sliceBound (.int k i) y code).run P c.w = .ok i.toNat c.w := fun k i y code h0 h1 => by
    simp [Instr.sliceBound, asIntOf, h0, h1]
  cases lo with
  | none =>
    simp only [optInt] at hl
    cases hi with
    | none =>
      simp only [optInt] at hh
      subst hl; subst hh
      simp [Instr.sliceBounds]
    | some hi =>
      simp only [optInt] at hh
      subst hl
      obtain ⟨kh, hh⟩ := hh
      simp [Instr.sliceBounds, hr.evInt hh, b1 kh h cap _ (by omega) (by omega)]
  | some lo =>
    simp only [optInt] at hl
    cases hi with
    | none =>
      simp only [optInt] at hh
      subst hh
      obtain ⟨kl, hl⟩ := hl
      simp [Instr.sliceBounds, hr.evInt hl, b1 kl l len _ h0 (by omega)]
    | some hi =>
      simp only [optInt] at hh
      obtain ⟨kl, hl⟩ := hl
      obtain ⟨kh, hh⟩ := hh
      simp [Instr.sliceBounds, hr.evInt hl, hr.evInt hh, b1 kh h cap _ (by omega) (by omega), b1 kl l h.toNat _ h0 (by omega)]

theorem ok_slStr {o : Oper} {q : Q} {t : TypeId} {x : Operand} {lo hi : Option Operand} {s : ByteArray} {l h : Int} (ho : o.op = .slice t x lo hi none) (hd : P.underlying t = some .string) (hx : ev q.E x = .str s)
    (hl : optInt q.E lo 0 l) (hh : optInt q.E hi s.size h) (h0 : 0 ≤ l) (h1 : l ≤ h) (h2 : h ≤ s.size) : OpOk P q o (.str (s.extract l.toNat h.toNat)) none q :=
  op_pure fun fr a c hr => ⟨.string (s.extract l.toNat h.toNat), by
    have hb := run_bounds (P := P) hr false s.size s.size lo hi l h hl hh h0 h1 h2 (Nat.le_refl _)
    simp [execOp, ho, Instr.sliceAt, Instr.slice, run_underlying hd, hr.evStr hx, hb], .str _⟩

theorem getD_cut (xs : List LV) (l h i : Nat) (hi : i < h - l) : ((xs.take h).drop l).getD i .any = xs.getD (l + i) .any := by
  simp only [List.getD_eq_getElem?_getD, List.getElem?_drop, List.getElem?_take]
  rw [if_pos (by omega)]
theorem rep_cut {c : Cx} {sz : Nat} {xs : List LV} {v : Value} (h : Rep c (.sl sz xs) v []) (l hh : Nat) (h1 : l ≤ hh) (h2 : hh ≤ xs.length) :
    ∃ A cap, v = .slice A xs.length cap ∧ xs.length ≤ cap ∧ Rep c (.sl sz ((xs.take hh).drop l)) (.slice (if cap = l then A else A.map (·.add (l * sz))) (hh - l) (cap - l)) [] := by
  obtain ⟨A, cap, rfl, hcap, hmax, hcells⟩ := rep_sl h
  have hlen : ((xs.take hh).drop l).length = hh - l := by simp; omega
  refine ⟨A, cap, rfl, hcap, ?_⟩
  rcases Nat.eq_zero_or_pos (hh - l) with h3 | h3
  · have : (xs.take hh).drop l = [] := List.eq_nil_of_length_eq_zero (by omega)
    rw [this, h3]
    refine .sl0 _ _ _ fun hA => ?_
    have hA' : A = none ∨ cap = l := by
      by_cases e : cap = l
      · exact .inr e
      · rw [if_neg e] at hA
        cases A with
        | none => exact .inl rfl
        | some a => cases hA
    rcases hA' with rfl | rfl
    · rw [(rep_sl_nil h).2.2]; omega
    · omega
  · obtain ⟨b, off, cv, rfl, hc, hI, ho, hr⟩ := hcells (by omega)
    rw [if_neg (by omega)]
    simp only [Option.map_some]
    have hadd : (⟨b, off, none⟩ : Addr).add (l * sz) = ⟨b, off + l * sz, none⟩ := Addr.add_lit _ _ _
    rw [hadd]
    have hp : ∀ p, p < (hh - l) * sz → l * sz + p < xs.length * sz := fun p hp => by
      have : (hh - l) * sz + l * sz ≤ xs.length * sz := by rw [← Nat.add_mul]; exact Nat.mul_le_mul_right _ (by omega)
      omega
    have := Rep.sl (c := c) sz b (off + l * sz) (cap - l) ((xs.take hh).drop l) (fun p => cv (l * sz + p)) (by rw [hlen]; omega) (by omega)
      (fun p h => by rw [hlen] at h; rw [Nat.add_assoc]; exact hc _ (hp p h)) (fun p h => by rw [hlen] at h; rw [Nat.add_assoc]; exact hI _ (hp p h)) (fun p h => by rw [hlen] at h; exact ho _ (hp p h))
      (fun p h => by
        rw [hlen] at h
        have hsz : 0 < sz := Nat.pos_of_ne_zero fun e => by subst e; simp at h
        have e1 : (l * sz + p) / sz = l + p / sz := by rw [Nat.add_comm, Nat.add_mul_div_right _ _ hsz, Nat.add_comm]
        have e2 : (l * sz + p) % sz = p % sz := by rw [Nat.add_comm, Nat.add_mul_mod_self_right]
        have := hr _ (hp p h)
        rw [e1, e2] at this
        rw [getD_cut _ _ _ _ (Nat.div_lt_of_lt_mul (by rw [Nat.mul_comm]; exact h))]
        exact this)
    rw [hlen] at this
    exact this
theorem ok_slSl {o : Oper} {q : Q} {t e : TypeId} {i : TypeInfo} {x : Operand} {lo hi : Option Operand} {sz : Nat} {xs : List LV} {l h : Int} (ho : o.op = .slice t x lo hi none) (hd : P.underlying t = some (.slice e)) (he : P.info? e = some i) (hsz : i.size = sz)
    (hx : ∀ {c : Cx} {w : Value} {O : List Nat}, Rep c (ev q.E x) w O → Rep c (.sl sz xs) w [])
    (hl : optInt q.E lo 0 l) (hh : optInt q.E hi xs.length h) (h0 : 0 ≤ l) (h1 : l ≤ h) (h2 : h ≤ xs.length) : OpOk P q o (.sl sz ((xs.take h.toNat).drop l.toNat)) none q :=
  op_pure fun fr a c hr => by
    obtain ⟨O, r⟩ := hr.evr x
    obtain ⟨A, cap, hv, hcap, hrep⟩ := rep_cut (hx r) l.toNat h.toNat (by omega) (by omega)
    refine ⟨_, ?_, hrep⟩
    have hb := run_bounds (P := P) hr true xs.length cap lo hi l h hl hh h0 h1 h2 hcap
    subst hsz
    simp [execOp, ho, Instr.sliceAt, Instr.slice, run_underlying hd, hv, hb, sizeOf, typeInfo, he]

theorem ok_indexAddr {o : Oper} {q : Q} {t e : TypeId} {i : TypeInfo} {x ix : Operand} {sz : Nat} {xs : List LV} {n : Int} (ho : o.op = .indexAddr t x ix) (hd : P.underlying t = some (.slice e)) (he : P.info? e = some i) (hsz : i.size = sz)
    (hx : ∀ {c : Cx} {w : Value} {O : List Nat}, Rep c (ev q.E x) w O → Rep c (.sl sz xs) w []) {ki : IntKind} (hi : ev q.E ix = .int ki n) (h0 : 0 ≤ n) (h1 : n < xs.length) :
    OpOk P q o (.cptr (xs.getD n.toNat .any) sz 0) none q :=
  op_pure fun fr a c hr => by
    obtain ⟨O, r⟩ := hr.evr x
    obtain ⟨A, cap, hv, hcap, hmax, hcells⟩ := rep_sl (hx r)
    obtain ⟨b, off, cv, rfl, hc, hI, ho1, hr1⟩ := hcells (by omega)
    have hb : ∀ p, p < sz → n.toNat * sz + p < xs.length * sz := fun p hp => by
      have : (n.toNat + 1) * sz ≤ xs.length * sz := Nat.mul_le_mul_right _ (by omega)
      rw [Nat.add_mul] at this; omega
    refine ⟨.pointer (some ⟨b, off + n.toNat * sz, none⟩), ?_, ?_⟩
    · subst hsz
      simp [execOp, ho, Instr.indexAt, hr.evInt hi, asIntOf, run_underlying hd, hv, h0, h1, sizeOf, typeInfo, he, Addr.add_lit]
    · exact Rep.cptr (c := c) (xs.getD n.toNat .any) 0 sz b (off + n.toNat * sz) (fun p => cv (n.toNat * sz + p)) (Nat.zero_le _)
        (fun p hp => by rw [Nat.add_assoc]; exact hc _ (hb p hp)) (fun p hp => by rw [Nat.add_assoc]; exact hI _ (hb p hp)) (fun p hp => ho1 _ (hb p hp))
        (fun p hp => by
          have hsz0 : 0 < sz := by omega
          have e1 : (n.toNat * sz + p) / sz = n.toNat := by rw [Nat.add_comm, Nat.add_mul_div_right _ _ hsz0, Nat.div_eq_of_lt hp, Nat.zero_add]
          have e2 : (n.toNat * sz + p) % sz = p := by rw [Nat.add_comm, Nat.add_mul_mod_self_right, Nat.mod_eq_of_lt hp]
          have := hr1 _ (hb p hp)
          rw [e1, e2] at this
          exact this)
end
end Go.Lm

/- One operation: variables of the call's own, fields, whole values. -/
namespace Go.Lm
section
variable {R : Type} {P : Program} {T : Nat → Option TI} {C : Nat → Hd R}

theorem tiOf_struct {t : TypeId} {ti : TI} (h : tiOf P t = some ti) (hk : ti.kd = .struct) : ∃ fs, P.underlying t = some (.struct fs) ∧ ti.fs = fs.toList.map (fun f => (f.offset, P.cellsOf f.type, f.type)) ∧ ∀ f, f ∈ fs.toList → P.cellsOf f.type ≠ 0 := by
  unfold tiOf at h
  split at h
  · rename_i i d hi hd
    split at h
    · split at h
      · split at h
        · cases h; cases hk
        · cases h
      · rename_i fs
        split at h
        · rename_i hall
          cases h
          refine ⟨fs, hd, rfl, fun f hf e => ?_⟩
          have := List.all_eq_true.1 hall f hf
          rw [e] at this; simp at this
        · cases h
      · cases h; cases hk
      · cases h; cases hk
      · cases h
        exfalso
        cases d <;> simp [kdOf] at hk <;> simp_all
    · cases h
  · cases h
/-- A type that has fields known is a struct. -/
theorem tiOf_fs {t : TypeId} {ti : TI} (h : tiOf P t = some ti) {i o n : Nat} {ft : TypeId} (hf : ti.fs[i]? = some (o, n, ft)) : ∃ fs f, P.underlying t = some (.struct fs) ∧ fs[i]? = some f ∧ f.offset = o ∧ P.cellsOf f.type = n ∧ f.type = ft ∧ n ≠ 0 := by
  have hk : ti.kd = .struct := by
    unfold tiOf at h
    split at h
    · split at h
      · split at h
        · split at h
          · cases h; simp at hf
          · cases h
        · split at h
          · cases h; rfl
          · cases h
        · cases h; simp at hf
        · cases h; simp at hf
        · cases h; simp at hf
      · cases h
    · cases h
  obtain ⟨fs, hd, hfs, hn⟩ := tiOf_struct h hk
  rw [hfs, List.getElem?_map] at hf
  cases hq : fs.toList[i]? with
  | none => rw [hq] at hf; simp at hf
  | some f =>
    rw [hq] at hf
    simp at hf
    refine ⟨fs, f, hd, by simpa using hq, hf.1, hf.2.1, hf.2.2, ?_⟩
    rw [← hf.2.1]
    exact hn f (List.mem_of_getElem? hq)

/-- The address of a variable of the call's own. -/
theorem Rel.addr {fr : Fr} {q : Q} {a : Act} {c : Cx} (hr : Rel fr q a c) {x : Operand} {d p : Nat} (h : q.addr x = some (d, p)) :
    d < q.E.length ∧ ∃ g, a.tmps.getD d undef = .pointer (some ⟨g, 0, none⟩) ∧ a.eval x = .pointer (some ⟨g, p, none⟩) := by
  obtain ⟨o, hr⟩ := hr
  unfold Q.addr at h
  split at h
  · rename_i t
    split at h
    · rename_i z hz
      cases h
      obtain ⟨_, hd, g, h1, h2⟩ := hr.al t d p hz
      exact ⟨hd, g, h1, h2⟩
    · split at h
      · rename_i xs hx
        cases h
        have ht : d < q.E.length := by
          rcases Nat.lt_or_ge d q.E.length with h1 | h1
          · exact h1
          · simp [List.getD_eq_getElem?_getD, List.getElem?_eq_none h1] at hx
        have r := hr.env d ht
        rw [hx] at r
        generalize hv : a.tmps.getD d undef = v at r
        generalize hO : o (.env d) = O at r
        cases r with
        | lbox _ g cur e hs hh hI h1 hr => exact ⟨ht, g, rfl, hv⟩
      · cases h
  · cases h

theorem ok_move' {o : Oper} {q : Q} {x : Operand} (ho : o.op = .move x) : OpOk P q o (dup (ev q.E x)) (q.addr x) q :=
  op_val fun fr a c hr => ⟨c, a.eval x, by simp [execOp, ho], by
    have hd := hr.evd x
    obtain ⟨ow, hr⟩ := hr
    exact hr.fly1 hd, fun e p h => by
    obtain ⟨h1, g, h2, h3⟩ := hr.addr h
    exact ⟨h1, g, h2, h3⟩⟩
theorem ok_nilCheck {o : Oper} {q : Q} {x : Operand} {v : LV} (ho : o.op = .nilCheck x) (hv : ev q.E x = v) (hp : ∀ {c : Cx} {w : Value} {O : List Nat}, Rep c v w O → (∃ a, w = .pointer (some a)) ∧ O = []) : OpOk P q o v none q :=
  op_pure fun fr a c hr => by
    obtain ⟨O, r⟩ := hr.evr x
    rw [hv] at r
    obtain ⟨⟨ad, h1⟩, rfl⟩ := hp r
    exact ⟨a.eval x, by simp [execOp, ho, h1], r⟩
theorem ok_nilCheck_own {o : Oper} {q : Q} {x : Operand} {d p : Nat} (ho : o.op = .nilCheck x) (ha : q.addr x = some (d, p)) : OpOk P q o .any (some (d, p)) q :=
  op_val fun fr a c hr => by
    obtain ⟨h1, g, h2, h3⟩ := hr.addr ha
    refine ⟨c, a.eval x, by simp [execOp, ho, h3], ?_, fun e p' h => ?_⟩
    · obtain ⟨ow, hr⟩ := hr
      exact hr.fly1 (.any _)
    · cases h; exact ⟨h1, g, h2, h3⟩
theorem ok_makeFunc {o : Oper} {q : Q} {f : FuncId} {first cs : Array Operand} (ho : o.op = .makeFunc (.func f) first cs) (hf : first.toList = []) : OpOk P q o (.fn f (cs.toList.map fun x => dup (ev q.E x))) none q :=
  op_pure fun fr a c hr => by
    have h0 : first = #[] := by simpa using hf
    subst h0
    refine ⟨.func (.func f) #[] (cs.map a.eval), by simp [execOp, ho, Instr.makeFunc], .fn f _ _ (by simp) (fun i hi => ?_)⟩
    have hi' : i < cs.size := by simpa using hi
    have e1 : (cs.toList.map fun x => dup (Lm.ev q.E x)).getD i .any = dup (Lm.ev q.E cs[i]) := by simp [List.getD_eq_getElem?_getD, hi']
    have e2 : (cs.map a.eval).getD i undef = a.eval cs[i] := by simp [Array.getD_eq_getD_getElem?, hi']
    rw [e1, e2]
    exact hr.evd _

theorem run_fieldAt {w : World} {t : TypeId} {fs : Array Field} {f : Field} {i : Nat} {b o : Nat} (hd : P.underlying t = some (.struct fs)) (hf : fs[i]? = some f) (hn : P.cellsOf f.type ≠ 0) :
    (Instr.fieldAt t (.pointer (some ⟨b, o, none⟩)) i).run P w = .ok (.pointer (some ⟨b, o + f.offset, none⟩)) w := by
  have hi : ∃ j, P.info? f.type = some j ∧ j.size ≠ 0 := by
    unfold Program.cellsOf at hn
    cases hq : P.info? f.type with
    | none => rw [hq] at hn; simp at hn
    | some j => rw [hq] at hn; exact ⟨j, rfl, by simpa using hn⟩
  obtain ⟨j, hj, hj0⟩ := hi
  simp [Instr.fieldAt, run_underlying hd, hf, Instr.sureAddr, fieldPlace, sizeOf, typeInfo, hj, hj0, Addr.add_lit]

theorem ok_fieldAddr_own {o : Oper} {q : Q} {t : TypeId} {ti : TI} {x : Operand} {i fo n d p : Nat} {ft : TypeId} (ho : o.op = .fieldAddr t x i) (ht : tiOf P t = some ti) (hf : ti.fs[i]? = some (fo, n, ft))
    (ha : q.addr x = some (d, p)) : OpOk P q o .any (some (d, p + fo)) q := by
  obtain ⟨fs, f, hd, hfi, hoff, hn, _, hn0⟩ := tiOf_fs ht hf
  refine op_val fun fr a c hr => ?_
  obtain ⟨hlt, g, h1, h2⟩ := hr.addr ha
  refine ⟨c, .pointer (some ⟨g, p + fo, none⟩), ?_, ?_, fun e p' he => ?_⟩
  · simp [execOp, ho, h2, run_fieldAt hd hfi (by rw [hn]; exact hn0), hoff]
  · obtain ⟨ow, hr⟩ := hr
    exact hr.fly1 (.any _)
  · cases he; exact ⟨hlt, g, h1, rfl⟩
theorem ok_fieldAddr_cptr {o : Oper} {q : Q} {t : TypeId} {ti : TI} {x : Operand} {i fo n m p : Nat} {ft : TypeId} {v : LV} (ho : o.op = .fieldAddr t x i) (ht : tiOf P t = some ti) (hf : ti.fs[i]? = some (fo, n, ft))
    (hx : ev q.E x = .cptr v m p) (hm : p + fo ≤ m) : OpOk P q o (.cptr v m (p + fo)) none q := by
  obtain ⟨fs, f, hd, hfi, hoff, hn, _, hn0⟩ := tiOf_fs ht hf
  refine op_pure fun fr a c hr => ?_
  obtain ⟨O, r⟩ := hr.evr x
  rw [hx] at r
  generalize hv : a.eval x = z at r
  cases r with
  | cptr _ _ _ b off cv hle hc hI h1 hr1 =>
    refine ⟨.pointer (some ⟨b, off + (p + fo), none⟩), ?_, .cptr v (p + fo) m b off cv hm hc hI h1 hr1⟩
    simp [execOp, ho, hv, run_fieldAt hd hfi (by rw [hn]; exact hn0), hoff, Nat.add_assoc]

theorem ok_fieldAddr_ptr {o : Oper} {q : Q} {t : TypeId} {ti : TI} {x : Operand} {i fo n id p : Nat} {ft : TypeId} (ho : o.op = .fieldAddr t x i) (ht : tiOf P t = some ti) (hf : ti.fs[i]? = some (fo, n, ft))
    (hx : ev q.E x = .ptr id p) : OpOk P q o (.ptr id (p + fo)) none q := by
  obtain ⟨fs, f, hd, hfi, hoff, hn, _, hn0⟩ := tiOf_fs ht hf
  refine op_pure fun fr a c hr => ?_
  obtain ⟨O, r⟩ := hr.evr x
  rw [hx] at r
  generalize hv : a.eval x = z at r
  cases r with
  | ptr _ _ hid =>
    refine ⟨.pointer (some ⟨c.ι id, p + fo, none⟩), ?_, .ptr id (p + fo) hid⟩
    simp [execOp, ho, hv, run_fieldAt hd hfi (by rw [hn]; exact hn0), hoff]

theorem isAggK_of {d : TypeDesc} (h : isAggK (kdOf d) = true) : (∃ fs, d = .struct fs) ∨ ∃ n e, d = .array n e := by
  cases d <;> simp [kdOf, isAggK] at h
  · exact .inr ⟨_, _, rfl⟩
  · exact .inl ⟨_, rfl⟩
theorem run_loadAt_agg {w : World} {t : TypeId} {i : TypeInfo} {d : TypeDesc} (hi : P.info? t = some i) (hd : P.underlying t = some d) (hk : isAggK (kdOf d) = true) (ad : Addr) (f : Nat → Value)
    (hc : ∀ j, j < i.size → w.cell? (ad.add j) = some (f j)) : (Instr.loadAt t (.pointer (some ad))).run P w = .ok (.agg ((List.range i.size).map f).toArray) w := by
  have h1 := run_loadCells (P := P) w ad i.size f hc
  have h2 : (isAgg t).run P w = .ok true w := by
    rcases isAggK_of hk with ⟨fs, rfl⟩ | ⟨n, e, rfl⟩ <;> simp [isAgg, run_underlying hd]
  simp [Instr.loadAt, Instr.sureAddr, loadVar, h2, sizeOf, typeInfo, hi, h1]
theorem run_loadAt_leaf {w : World} {t : TypeId} {d : TypeDesc} (hd : P.underlying t = some d) (hk : isAggK (kdOf d) = false) (ad : Addr) (v : Value)
    (hc : w.cell? ad = some v) : (Instr.loadAt t (.pointer (some ad))).run P w = .ok v w := by
  have h2 : (isAgg t).run P w = .ok false w := by
    cases d <;> simp [kdOf, isAggK] at hk <;> simp [isAgg, run_underlying hd]
  simp [Instr.loadAt, Instr.sureAddr, loadVar, h2, hc]

theorem dec_some {l : LK} {v : LV} {K : LV → Option R} {r : R} (h : dec l v K = some r) : ∃ v', K v' = some r ∧ ∀ {c : Cx} {w : Value}, Rep c v w [] → Rep c v' w [] := by
  cases l <;> simp only [dec] at h
  · obtain ⟨n, e, h2⟩ := asInt_some h; subst e; exact ⟨_, h2, fun r => r⟩
  · obtain ⟨n, e, h2⟩ := asBool_some h; subst e; exact ⟨_, h2, fun r => r⟩
  · obtain ⟨n, e, h2⟩ := asStr_some h; subst e; exact ⟨_, h2, fun r => r⟩
  · obtain ⟨n, h2, hr⟩ := asSl_some h; exact ⟨_, h2, fun r => hr r⟩
  · exact ⟨_, h, fun r => r⟩
  · exact ⟨_, h, fun r => r⟩
  · exact ⟨_, h, fun r => r⟩
  · exact ⟨_, h, fun r => r⟩
theorem decL_some : ∀ (ls : List LK) (xs : List LV) (i : Nat) (K : List LV → Option R) (r : R), decL ls xs i K = some r →
    ∃ l, K l = some r ∧ l.length = ls.length ∧ ∀ {c : Cx} (f : Nat → Value), (∀ j, j < ls.length → Rep c (xs.getD (i + j) .any) (f j) []) → ∀ j, j < ls.length → Rep c (l.getD j .any) (f j) []
  | [], xs, i, K, r, h => ⟨[], h, rfl, fun f _ j hj => absurd hj (by simp)⟩
  | l :: ls, xs, i, K, r, h => by
    simp only [decL] at h
    obtain ⟨v, h, hv⟩ := dec_some h
    obtain ⟨l', h, hlen, hl⟩ := decL_some ls xs (i + 1) _ r h
    refine ⟨v :: l', h, by simp [hlen], fun f hf j hj => ?_⟩
    cases j with
    | zero => simpa using hv (by simpa using hf 0 (by simp))
    | succ j =>
      have := hl (fun j => f (j + 1)) (fun j hj => by have := hf (j + 1) (by simp; omega); rwa [show i + 1 + j = i + (j + 1) from by omega]) j (by simp at hj; omega)
      simpa using this

theorem decT_some {t : TI} {v : LV} {K : LV → Option R} {r : R} (h : decT t v K = some r) : ∃ v', K v' = some r ∧ ∀ {c : Cx} {w : Value}, Rep c v w [] → Rep c v' w [] := by
  have agg : (mat t.lk.length v fun xs => decL t.lk xs 0 fun l => K (.agg l)) = some r → ∃ v', K v' = some r ∧ ∀ {c : Cx} {w : Value}, Rep c v w [] → Rep c v' w [] := fun h => by
    obtain ⟨xs, rfl, hxl, hm⟩ := mat_some h
    obtain ⟨l, hK, hll, hl⟩ := decL_some _ _ _ _ _ hm
    refine ⟨_, hK, fun {c w} r => ?_⟩
    cases r with
    | agg _ cs hs hr =>
      refine .agg l cs (by omega) fun i hi => ?_
      have := hl (c := c) (fun j => cs.getD j undef) (fun j hj => by rw [Nat.zero_add]; exact hr j (by omega)) i (by omega)
      exact this
  unfold decT at h
  split at h
  · exact agg h
  · exact agg h
  · split at h
    · exact dec_some h
    · cases h
theorem getD_range_map {n : Nat} (f : Nat → Value) {i : Nat} (h : i < n) : (((List.range n).map f).toArray).getD i undef = f i := by
  simp [Array.getD_eq_getD_getElem?, h]

/-- A load out of memory that never turns. -/
theorem ok_load_cptr {o : Oper} {q : Q} {t : TypeId} {ti : TI} {x : Operand} {v : LV} {n p : Nat} (ho : o.op = .load t x) (ht : tiOf P t = some ti) (hx : ev q.E x = .cptr v n p) {K : LV → Option R} {r : R}
    (h : (match isAggK ti.kd with
          | true => (match Nat.beq p 0 && Nat.beq n ti.lk.length with
            | true => decT ti v K
            | false => ifB (Nat.ble (p + ti.lk.length) n) (mat n v fun xs => decL ti.lk xs p fun l => K (.agg l)) none)
          | false => (match Nat.blt p n with
            | true => decT ti (leaf v p) K
            | false => none)) = some r) : ∃ y, K y = some r ∧ OpOk P q o y none q := by
  obtain ⟨i, d, hi, hd, hkd, hlk, _⟩ := tiOf_und ht
  cases hk : isAggK ti.kd with
  | true =>
    rw [hk] at h
    simp only at h
    split at h
    · rename_i hb
      rw [Bool.and_eq_true] at hb
      have hp := Nat.eq_of_beq_eq_true hb.1
      have hn := Nat.eq_of_beq_eq_true hb.2
      have hm : mat ti.lk.length v (fun xs => decL ti.lk xs 0 fun l => K (.agg l)) = some r := by
        unfold decT at h
        revert h hk
        cases ti.kd <;> simp [isAggK]
      obtain ⟨xs, rfl, hxl, hm⟩ := mat_some hm
      obtain ⟨l, hK, hll, hl⟩ := decL_some _ _ _ _ _ hm
      refine ⟨.agg l, hK, op_pure fun fr a c hr => ?_⟩
      obtain ⟨O, rr⟩ := hr.evr x
      rw [hx] at rr
      generalize hv : a.eval x = z at rr
      cases rr with
      | cptr _ _ _ b off cv hle hc hI h1 hr1 =>
        subst hp
        refine ⟨.agg ((List.range i.size).map cv).toArray, ?_, ?_⟩
        · have := run_loadAt_agg (P := P) (w := c.w) hi hd (by rw [← hkd]; exact hk) ⟨b, off, none⟩ cv (fun j hj => by rw [Addr.add_lit]; exact hc j (by rw [hn, hlk]; exact hj))
          simp [execOp, ho, hv, this]
        · refine .agg l _ (by simp [hll, hlk]) (fun j hj => ?_)
          rw [getD_range_map _ (by rw [← hlk, ← hll]; exact hj)]
          exact hl cv (fun j hj => by simpa [leaf] using hr1 j (by rw [hn]; exact hj)) j (by rw [← hll]; exact hj)
    · unfold ifB at h
      split at h
      · rename_i hb
        have hle := Nat.le_of_ble_eq_true hb
        obtain ⟨xs, rfl, hxl, hm⟩ := mat_some h
        obtain ⟨l, hK, hll, hl⟩ := decL_some _ _ _ _ _ hm
        refine ⟨.agg l, hK, op_pure fun fr a c hr => ?_⟩
        obtain ⟨O, rr⟩ := hr.evr x
        rw [hx] at rr
        generalize hv : a.eval x = z at rr
        cases rr with
        | cptr _ _ _ b off cv hle2 hc hI h1 hr1 =>
          refine ⟨.agg ((List.range i.size).map fun j => cv (p + j)).toArray, ?_, ?_⟩
          · have := run_loadAt_agg (P := P) (w := c.w) hi hd (by rw [← hkd]; exact hk) ⟨b, off + p, none⟩ (fun j => cv (p + j)) (fun j hj => by rw [Addr.add_lit, Nat.add_assoc]; exact hc (p + j) (by rw [← hlk] at hj; omega))
            simp [execOp, ho, hv, this]
          · refine .agg l _ (by simp [hll, hlk]) (fun j hj => ?_)
            rw [getD_range_map (fun j => cv (p + j)) (by rw [← hlk, ← hll]; exact hj)]
            exact hl (fun j => cv (p + j)) (fun j hj => by simpa [leaf] using hr1 (p + j) (by omega)) j (by rw [← hll]; exact hj)
      · cases h
  | false =>
    rw [hk] at h
    simp only at h
    split at h
    · rename_i hb
      have hp : p < n := Nat.lt_of_succ_le (Nat.le_of_ble_eq_true hb)
      have hm : ∃ l, ti.lk = [l] ∧ dec l (leaf v p) K = some r := by
        unfold decT at h
        revert h hk
        cases ti.kd <;> simp only [isAggK] <;> intro hk <;> try (cases hk; done)
        all_goals
          intro h
          split at h
          · exact ⟨_, by assumption, h⟩
          · cases h
      obtain ⟨l, hl, hm⟩ := hm
      obtain ⟨y, hK, hy⟩ := dec_some hm
      refine ⟨y, hK, op_pure fun fr a c hr => ?_⟩
      obtain ⟨O, rr⟩ := hr.evr x
      rw [hx] at rr
      generalize hv : a.eval x = z at rr
      cases rr with
      | cptr _ _ _ b off cv hle hc hI h1 hr1 =>
        refine ⟨cv p, ?_, hy (hr1 p hp)⟩
        have := run_loadAt_leaf (P := P) (w := c.w) hd (by rw [← hkd]; exact hk) ⟨b, off + p, none⟩ (cv p) (hc p hp)
        simp [execOp, ho, hv, this]
    · cases h

theorem RelO.fresh {fr : Fr} {q : Q} {a : Act} {c : Cx} {xs : List LV} {vs : List Value} {o : Ow} (h : RelO fr q a c xs vs o) (ob : Obj) (cells : Array Value) (e : TypeId) (_hob : ob = .cells cells e (0, 0)) (J : Nat → Prop)
    {x : LV} {v : Value} (hr : ∀ c' : Cx, c'.w = c.w.alloc ob → Ext c c' (fun _ => False) → (∀ p, c'.I c.w.heap.size p ↔ J p) → (∃ O, (O = [] ∨ O = [c.w.heap.size]) ∧ Rep c' x v O)) :
    ∃ c' o', c'.w = c.w.alloc ob ∧ RelO fr q a c' (xs ++ [x]) (vs ++ [v]) o' := by
  have hlt : ∀ b, b < c.w.heap.size → (c.w.alloc ob).heap[b]? = c.w.heap[b]? := fun b hb => by
    show (c.w.heap.push ob)[b]? = _
    rw [Array.getElem?_push, if_neg (by omega)]
  let c' : Cx := { c with I := fun b p => c.I b p ∨ (b = c.w.heap.size ∧ J p), w := c.w.alloc ob }
  have hext : Ext c c' (fun _ => False) := ⟨Nat.le_refl _, fun _ _ => rfl, fun b p hp => .inl hp, fun b p hp => World.cell?_of_block (w := c.w) (hlt b (h.sto.bd b p hp)), by show _ ≤ (c.w.heap.push ob).size; simp, fun b hb _ => hlt b hb,
    fun b p hb _ hp => by
      rcases hp with hp | hp
      · exact hp
      · omega, (fun _ _ _ _ h _ => False.elim h), rfl, rfl, rfl⟩
  have hI : ∀ p, c'.I c.w.heap.size p ↔ J p := fun p => ⟨fun hp => by
    rcases hp with hp | hp
    · have := h.sto.bd _ _ hp; omega
    · exact hp.2, fun hp => .inr ⟨rfl, hp⟩⟩
  obtain ⟨O, hO, hrep⟩ := hr c' rfl hext hI
  have hmove := h.move (c' := c') hext (fun _ hf => hf.elim) rfl (fun b p hp => by
    show b < (c.w.heap.push ob).size
    rcases hp with hp | hp
    · have := h.sto.bd b p hp; simp; omega
    · simp; omega)
  have hnot : ∀ k, c.w.heap.size ∉ o k := fun k hk => by have := (h.own k _ hk).1; omega
  refine ⟨c', upd o (.arg xs.length) O, rfl, hmove.len, hmove.alen, fun t ht => ?_, hmove.al, ⟨hmove.sto.n, fun id hid => ?_, hmove.sto.bd⟩, fun i hi => ?_, by simp [hmove.flyl], ?_, hmove.ext, fun k g hg => ?_, hmove.df⟩
  · rw [upd_other _ _ (by simp)]; exact hmove.env t ht
  · rw [upd_other _ _ (by simp)]; exact hmove.sto.r id hid
  · by_cases e : i = xs.length
    · subst e; rw [upd_same, ← hmove.flyl]; simpa [List.getD_eq_getElem?_getD, hmove.flyl] using hrep
    · have hi' : i < xs.length := by simp at hi; omega
      rw [upd_other _ _ (by simp [e])]
      have := hmove.fly i hi'
      rwa [getD_app_lt _ _ _ _ hi', getD_app_lt _ _ _ _ (by rw [hmove.flyl]; exact hi')]
  · refine ⟨fun k => ?_, fun k k' g hne hg => ?_⟩
    · unfold upd; split
      · rcases hO with rfl | rfl <;> simp
      · exact h.sep.nd k
    · unfold upd at hg ⊢
      split at hg
      · rename_i hk
        split
        · rename_i hk'; exact absurd (hk.trans hk'.symm) hne
        · rcases hO with rfl | rfl
          · simp at hg
          · simp at hg; subst hg; exact hnot k'
      · split
        · rcases hO with rfl | rfl
          · simp
          · intro hm; simp at hm; subst hm; exact hnot k hg
        · exact h.sep.dj k k' g hne hg
  · unfold upd at hg
    split at hg
    · rcases hO with rfl | rfl
      · simp at hg
      · simp at hg; subst hg; exact ⟨by show _ < (c.w.heap.push ob).size; simp, .inr h.ext.size⟩
    · exact hmove.own k g hg
end
end Go.Lm

/- One operation: new variables, stores, whole values. -/
namespace Go.Lm
section
variable {R : Type} {P : Program} {T : Nat → Option TI} {C : Nat → Hd R}

theorem rep_cells {c : Cx} {x : LV} {v : Value} (h : Rep c x v []) (h1 : (cellsOf x).all one = true) :
    v.cells.size = (cellsOf x).length ∧ (∀ i, i < (cellsOf x).length → Rep c ((cellsOf x).getD i .any) (v.cells.getD i undef) []) ∧ ∀ i, i < v.cells.size → (v.cells.getD i undef).oneCell' = true := by
  have key : ∀ {x : LV} {v : Value}, Rep c x v [] → one x = true → v.cells = #[v] := fun {x v} r h => by
    have := r.one h
    cases v <;> simp [Value.oneCell'] at this <;> rfl
  have hcase : (∃ xs, x = .agg xs) ∨ cellsOf x = [x] := by cases x <;> simp [cellsOf]
  rcases hcase with ⟨xs, rfl⟩ | hc
  · cases h with
    | agg _ cs hs hr =>
      refine ⟨hs, hr, fun i hi => ?_⟩
      have hi' : i < xs.length := by rw [← hs]; exact hi
      refine (hr i hi').one ?_
      have := List.all_eq_true.1 h1 (xs[i]) (List.getElem_mem hi')
      simpa [List.getD_eq_getElem?_getD, hi'] using this
  · rw [hc] at h1 ⊢
    have hx : one x = true := by simpa using h1
    rw [key h hx]
    refine ⟨rfl, fun i hi => ?_, fun i hi => ?_⟩
    · have : i = 0 := by simp at hi; exact hi
      subst this; simpa [Array.getD_eq_getD_getElem?] using h
    · have : i = 0 := by simp at hi; exact hi
      subst this; simpa [Array.getD_eq_getD_getElem?] using h.one hx

theorem run_newVar {w : World} {t : TypeId} {v : Value} : (newVar t v).run P w = .ok ⟨w.heap.size, 0, none⟩ (w.alloc (.cells v.cells t)) := by
  simp [newVar, newRow]
theorem rep_newbox {c' : Cx} {w : World} {xs : List LV} {cells : Array Value} {e : TypeId} (hw : c'.w = w.alloc (.cells cells e)) (hI : ∀ p, ¬ c'.I w.heap.size p) (hs : cells.size = xs.length)
    (h1 : ∀ p, p < cells.size → (cells.getD p undef).oneCell' = true) (hr : ∀ i, i < xs.length → Rep c' (xs.getD i .any) (cells.getD i undef) []) : Rep c' (.lbox xs) (.pointer (some ⟨w.heap.size, 0, none⟩)) [w.heap.size] :=
  .lbox xs _ cells e hs (by rw [hw]; exact heap_alloc_new _ _) hI h1 hr

theorem ok_alloc {o : Oper} {q : Q} {t : TypeId} {ti : TI} (ho : o.op = .alloc t) (ht : tiOf P t = some ti) : OpOk P q o (.lbox ti.zero) none q := by
  obtain ⟨i, d, hi, hd, hkd, hlk, z, hz, hzs, hz1, hzl⟩ := tiOf_und ht
  refine op_val fun fr a c hr => ?_
  obtain ⟨ow, hr⟩ := hr
  obtain ⟨c', o', hw, hrel⟩ := hr.fresh (.cells z.cells t) z.cells t rfl (fun _ => False) (x := .lbox ti.zero) (v := .pointer (some ⟨c.w.heap.size, 0, none⟩)) (fun c' hw _ hI => ⟨_, .inr rfl, by
    refine rep_newbox hw (fun p hp => (hI p).1 hp) (by rw [hzl]; simp) hz1 (fun i hi => ?_)
    rw [hzl, getD_toList_map _ _ (by rw [hzl] at hi; simpa using hi)]; exact rep_ofVal _ _⟩)
  refine ⟨c', _, ?_, ⟨o', hrel⟩, fun _ _ h => by cases h⟩
  rw [hw]
  simp [execOp, ho, Instr.alloc, zeroValue, typeInfo, hi, hz, run_newVar]

theorem ok_box {o : Oper} {q : Q} {t : TypeId} {ti : TI} {x : Operand} (ho : o.op = .box t x) (_ht : tiOf P t = some ti) (h1 : (cellsOf (dup (ev q.E x))).all one = true) : OpOk P q o (.lbox (cellsOf (dup (ev q.E x)))) none q := by
  refine op_val fun fr a c hr => ?_
  obtain ⟨ow, hr⟩ := hr
  have hd := hr.evd x
  obtain ⟨hs, _, ho1⟩ := rep_cells hd h1
  obtain ⟨c', o', hw, hrel⟩ := hr.fresh (.cells (a.eval x).cells t) (a.eval x).cells t rfl (fun _ => False) (x := .lbox (cellsOf (dup (ev q.E x)))) (v := .pointer (some ⟨c.w.heap.size, 0, none⟩)) (fun c' hw hext hI => ⟨_, .inr rfl, by
    exact rep_newbox hw (fun p hp => (hI p).1 hp) hs ho1 (rep_cells (hd.ext hext (fun g hg => by simp at hg)) h1).2.1⟩)
  refine ⟨c', _, ?_, ⟨o', hrel⟩, fun _ _ h => by cases h⟩
  rw [hw]
  simp [execOp, ho, Instr.box, run_newVar]

/-- What lies in a variable of the call's own. -/
theorem Rel.boxR {fr : Fr} {q : Q} {a : Act} {c : Cx} {ow : Ow} (hr : RelO fr q a c [] [] ow) {d : Nat} (hne : 0 < (boxAt q.E d).length) :
    d < q.E.length ∧ q.E.getD d .any = .lbox (boxAt q.E d) ∧ ∃ g cur e, a.tmps.getD d undef = .pointer (some ⟨g, 0, none⟩) ∧ ow (.env d) = [g] ∧ cur.size = (boxAt q.E d).length ∧ c.w.heap[g]? = some (.cells cur e (0, 0)) ∧ (∀ p, ¬ c.I g p) ∧
      (∀ p, p < cur.size → (cur.getD p undef).oneCell' = true) ∧ ∀ i, i < (boxAt q.E d).length → Rep c ((boxAt q.E d).getD i .any) (cur.getD i undef) [] := by
  have hb : q.E.getD d .any = .lbox (boxAt q.E d) := by
    unfold boxAt at hne ⊢
    split <;> simp_all
  have hd : d < q.E.length := by
    rcases Nat.lt_or_ge d q.E.length with h1 | h1
    · exact h1
    · rw [List.getD_eq_getElem?_getD, List.getElem?_eq_none h1] at hb; simp at hb
  have r := hr.env d hd
  rw [hb] at r
  generalize hv : a.tmps.getD d undef = v at r
  generalize hO : ow (.env d) = O at r
  cases r with
  | lbox _ g cur e hs hh hI h1 hr => exact ⟨hd, hb, g, cur, e, rfl, rfl, hs, hh, hI, h1, hr⟩

theorem getD_part (xs : List LV) (o n i : Nat) (hi : i < n) : ((xs.drop o).take n).getD i .any = xs.getD (o + i) .any := by
  simp only [List.getD_eq_getElem?_getD, List.getElem?_take, List.getElem?_drop]
  rw [if_pos hi]

theorem ok_load_own {o : Oper} {q : Q} {t : TypeId} {ti : TI} {x : Operand} {d p : Nat} (ho : o.op = .load t x) (ht : tiOf P t = some ti) (ha : q.addr x = some (d, p))
    (hb : p + ti.lk.length ≤ (boxAt q.E d).length) (hpos : 0 < ti.lk.length) (hl : isAggK ti.kd = false → ti.lk.length = 1) : OpOk P q o (part ti (boxAt q.E d) p) none q := by
  obtain ⟨i, dd, hi, hd, hkd, hlk, _⟩ := tiOf_und ht
  refine op_pure fun fr a c hr => ?_
  obtain ⟨_, g', h1, h2⟩ := hr.addr ha
  obtain ⟨ow, hr⟩ := hr
  obtain ⟨hdl, hbx, g, cur, e, hv, hO, hs, hh, hI, ho1, hrep⟩ := Rel.boxR (d := d) hr (by omega)
  rw [h1] at hv
  simp at hv
  subst hv
  have hcell : ∀ j, j < (boxAt q.E d).length → c.w.cell? ⟨g', j, none⟩ = some (cur.getD j undef) := fun j hj => by
    have : j < cur.size := by rw [hs]; exact hj
    simp [World.cell?, hh, this, Array.getD_eq_getD_getElem?]
  unfold part
  cases hk : isAggK ti.kd with
  | true =>
    simp only
    refine ⟨.agg ((List.range i.size).map fun j => cur.getD (p + j) undef).toArray, ?_, ?_⟩
    · have := run_loadAt_agg (P := P) (w := c.w) hi hd (by rw [← hkd]; exact hk) ⟨g', p, none⟩ (fun j => cur.getD (p + j) undef) (fun j hj => by
        have hj' : j < ti.lk.length := by rw [hlk]; exact hj
        rw [Addr.add_lit]; exact hcell (p + j) (by omega))
      simp [execOp, ho, h2, this]
    · have hlen : ((boxAt q.E d).drop p |>.take ti.lk.length).length = ti.lk.length := by simp; omega
      refine .agg _ _ (by rw [hlen]; simp [hlk]) (fun j hj => ?_)
      rw [hlen] at hj
      rw [getD_range_map _ (by rw [← hlk]; exact hj), getD_part _ _ _ _ hj]
      exact hrep (p + j) (by omega)
  | false =>
    simp only
    have := hl hk
    refine ⟨cur.getD p undef, ?_, hrep p (by omega)⟩
    have := run_loadAt_leaf (P := P) (w := c.w) hd (by rw [← hkd]; exact hk) ⟨g', p, none⟩ _ (hcell p (by omega))
    simp [execOp, ho, h2, this]
end
end Go.Lm

/- One operation: stores, fields of values, structs that are built. -/
namespace Go.Lm
section
variable {R : Type} {P : Program} {T : Nat → Option TI} {C : Nat → Hd R}

theorem setFrom_len : ∀ (vs xs : List LV) (o : Nat), (setFrom xs o vs).length = xs.length
  | [], xs, o => rfl
  | v :: vs, xs, o => by simp [setFrom, setFrom_len vs]
theorem setFrom_get : ∀ (vs xs : List LV) (o i : Nat), i < xs.length → (setFrom xs o vs).getD i .any = if o ≤ i ∧ i < o + vs.length then vs.getD (i - o) .any else xs.getD i .any
  | [], xs, o, i, hi => by rw [if_neg (fun h => by simp at h; omega)]; rfl
  | v :: vs, xs, o, i, hi => by
    simp only [setFrom]
    rw [setFrom_get vs (xs.set o v) (o + 1) i (by simpa using hi)]
    by_cases h1 : i = o
    · subst h1
      rw [if_neg (by omega), if_pos (by simp)]
      simp [List.getD_eq_getElem?_getD, hi]
    · have hset : (xs.set o v).getD i .any = xs.getD i .any := by
        simp [List.getD_eq_getElem?_getD, List.getElem?_set_ne (Ne.symm h1)]
      by_cases h2 : o + 1 ≤ i ∧ i < o + 1 + vs.length
      · rw [if_pos h2, if_pos (by simp; omega)]
        have : i - o = (i - (o + 1)) + 1 := by omega
        rw [this, List.getD_cons_succ]
      · rw [if_neg h2, if_neg (by simp; omega), hset]
theorem getD_splice (cur : List Value) (vs : List Value) (o i : Nat) (h : o + vs.length ≤ cur.length) :
    ((cur.take o ++ vs ++ cur.drop (o + vs.length)).toArray).getD i undef = if o ≤ i ∧ i < o + vs.length then vs.getD (i - o) undef else cur.getD i undef := by
  simp only [Array.getD_eq_getD_getElem?, List.getElem?_toArray, List.getD_eq_getElem?_getD]
  have ht : (cur.take o).length = o := by simp; omega
  by_cases h1 : i < o
  · rw [List.append_assoc, List.getElem?_append_left (by omega), if_neg (by omega), List.getElem?_take, if_pos h1]
  · by_cases h2 : i < o + vs.length
    · rw [if_pos ⟨by omega, h2⟩, List.getElem?_append_left (by simp; omega), List.getElem?_append_right (by omega), ht]
    · rw [if_neg (by omega), List.getElem?_append_right (by simp; omega), List.getElem?_drop]
      congr 2
      simp; omega

theorem op_skip {q q' : Q} {o : Oper}
    (h : ∀ (fr : Fr) (a : Act) (c : Cx), Rel fr q a c → ∃ c', (execOp a.eval o).run P c.w = .ok .skip c'.w ∧ Rel fr q' a c') : OpOk P q o .any none q' := by
  intro fr a c hr next Qp hn
  obtain ⟨c', h1, h2⟩ := h fr a c hr
  unfold Oper.wp
  rw [h1]
  obtain ⟨ow, h2⟩ := h2
  exact hn c' undef (h2.fly1 (.any _)) (fun _ _ h => by cases h)

theorem ok_store {o : Oper} {q : Q} {t : TypeId} {ti : TI} {x y : Operand} {d p : Nat} (ho : o.op = .store t x y) (ht : tiOf P t = some ti) (ha : q.addr x = some (d, p))
    (hb : p + ti.lk.length ≤ (boxAt q.E d).length) (hpos : 0 < ti.lk.length) (hlen : (cellsOf (dup (ev q.E y))).length = ti.lk.length) (h1 : (cellsOf (dup (ev q.E y))).all one = true) :
    OpOk P q o .any none { q with E := q.E.set d (.lbox (setFrom (boxAt q.E d) p (cellsOf (dup (ev q.E y))))) } := by
  obtain ⟨i, dd, hi, hd, hkd, hlk, _⟩ := tiOf_und ht
  refine op_skip fun fr a c hr => ?_
  obtain ⟨_, g', e1, e2⟩ := hr.addr ha
  obtain ⟨ow, hr⟩ := hr
  obtain ⟨hdl, hbx, g, cur, e, hv, hO, hs, hh, hI, ho1, hrep⟩ := Rel.boxR (d := d) hr (by omega)
  rw [e1] at hv
  simp at hv
  subst hv
  have hyd := hr.evd y
  obtain ⟨hys, hyr, hy1⟩ := rep_cells hyd h1
  generalize hvals : cellsOf (dup (ev q.E y)) = vals at *
  generalize hbox : boxAt q.E d = box at *
  have hcl : (a.eval y).cells.toList.length = vals.length := by simpa using hys
  have hst := run_storeCells_at P g' p e (a.eval y).cells.toList 0 cur c.w hh (by rw [hcl]; omega) (fun v hv => by
    obtain ⟨j, hj, rfl⟩ := List.mem_iff_getElem.1 hv
    have := hy1 j (by simpa using hj)
    simpa [Array.getD_eq_getD_getElem?, show j < (a.eval y).cells.size from by simpa using hj] using this)
  simp only [Nat.add_zero] at hst
  generalize hnew : (List.take p cur.toList ++ (a.eval y).cells.toList ++ List.drop (p + (a.eval y).cells.toList.length) cur.toList).toArray = new at hst
  have hnews : new.size = cur.size := by subst hnew; simp; simp at hcl; omega
  have hnget : ∀ j, new.getD j undef = if p ≤ j ∧ j < p + vals.length then (a.eval y).cells.getD (j - p) undef else cur.getD j undef := fun j => by
    subst hnew
    rw [getD_splice _ _ _ _ (by simp; simp at hcl; omega), hcl]
    congr 1
    · simp [List.getD_eq_getElem?_getD, Array.getD_eq_getD_getElem?]
    · simp [List.getD_eq_getElem?_getD, Array.getD_eq_getD_getElem?]
  have hother : ∀ b, b ≠ g' → (c.w.setRow g' new).heap[b]? = c.w.heap[b]? := fun b hb => setRow_other c.w g' b new hb
  have hsize : (c.w.setRow g' new).heap.size = c.w.heap.size := by simp [World.setRow]
  have hext : Ext c { c with w := c.w.setRow g' new } (fun b => b = g') := ⟨Nat.le_refl _, fun _ _ => rfl, fun _ _ h => h, fun b o hb => World.cell?_of_block (w := c.w) (hother b (fun e => by subst e; exact hI o hb)), by show _ ≤ (c.w.setRow g' new).heap.size; omega,
    fun b _ hb => hother b hb, fun _ _ _ _ h => h, (fun b _ _ _ hb h => by subst hb; rw [hh] at h; cases h; exact ⟨new, _, setRow_heap c.w _ cur new _ (0, 0) hh, hnews⟩), rfl, rfl, rfl⟩
  refine ⟨{ c with w := c.w.setRow g' new }, ?_, ow, by simpa using hr.len, by simpa using hr.alen, fun t' ht' => ?_, fun t' d' p' hp' => by simpa using hr.al t' d' p' hp', ⟨hr.sto.n, fun id hid => ?_, fun b p hb => by show b < (c.w.setRow g' new).heap.size; rw [hsize]; exact hr.sto.bd b p hb⟩, fun i hi => absurd hi (by simp), rfl, hr.sep, ?_, fun k g hg => ⟨by show g < (c.w.setRow g' new).heap.size; rw [hsize]; exact (hr.own k g hg).1, (hr.own k g hg).2⟩, hr.df⟩
  · have hsz : (a.eval y).cells.size = i.size := by rw [hys, hlen, hlk]
    simp [execOp, ho, Instr.storeAt, Instr.sureAddr, storeVar, e2, sizeOf, typeInfo, hi, hsz, hst]
  · have ht'' : t' < q.E.length := by simpa using ht'
    by_cases e : t' = d
    · subst e
      have hset : (q.E.set t' (.lbox (setFrom box p vals))).getD t' .any = .lbox (setFrom box p vals) := by simp [List.getD_eq_getElem?_getD, ht'']
      show Rep _ ((q.E.set t' _).getD t' .any) _ _
      rw [hset, e1, hO]
      refine .lbox _ g' new _ (by rw [hnews, hs, setFrom_len]) (setRow_heap c.w g' cur new _ (0, 0) hh) hI (fun j hj => ?_) (fun j hj => ?_)
      · rw [hnget]
        split
        · exact hy1 _ (by rw [hys]; omega)
        · exact ho1 j (by rw [← hnews]; exact hj)
      · rw [setFrom_len] at hj
        rw [setFrom_get _ _ _ _ hj, hnget]
        split
        · exact (hyr _ (by omega)).ext hext (fun g hg => by simp at hg)
        · exact (hrep j hj).ext hext (fun g hg => by simp at hg)
    · have hset : (q.E.set d (.lbox (setFrom box p vals))).getD t' .any = q.E.getD t' .any := by simp [List.getD_eq_getElem?_getD, List.getElem?_set_ne (Ne.symm e)]
      show Rep _ ((q.E.set d _).getD t' .any) _ _
      rw [hset]
      exact (hr.env t' ht'').ext hext (fun g hg e' => by
        subst e'
        exact hr.sep.dj (.env t') (.env d) g (by simp [e]) hg (by rw [hO]; simp))
  · exact (hr.sto.r id hid).ext hext (fun g hg e' => by
      subst e'
      exact hr.sep.dj (.sto id) (.env d) g (by simp) hg (by rw [hO]; simp))
  · refine hr.ext.trans hext (fun b hb hm => ?_)
    subst hm
    rcases (hr.own (.env d) b (by rw [hO]; simp)).2 with h2 | h2
    · exact h2
    · omega

theorem ok_field {o : Oper} {q : Q} {t : TypeId} {ti fti : TI} {x : Operand} {i fo n : Nat} {ft : TypeId} {xs : List LV} (ho : o.op = .field t x i) (ht : tiOf P t = some ti) (hf : ti.fs[i]? = some (fo, n, ft)) (hft : tiOf P ft = some fti)
    (hx : ev q.E x = .agg xs) (hb : fo + fti.lk.length ≤ xs.length) (hpos : 0 < fti.lk.length) (hl : isAggK fti.kd = false → fti.lk.length = 1) : OpOk P q o (part fti xs fo) none q := by
  obtain ⟨fs, f, hd, hfi, hoff, hn, hfty, hn0⟩ := tiOf_fs ht hf
  obtain ⟨j, dd, hi, hdd, hkd, hlk, _⟩ := tiOf_und hft
  refine op_pure fun fr a c hr => ?_
  obtain ⟨O, r⟩ := hr.evr x
  rw [hx] at r
  generalize hv : a.eval x = z at r
  cases r with
  | agg _ cs hs hrep =>
    subst hfty
    unfold part
    cases hk : isAggK fti.kd with
    | true =>
      refine ⟨.agg (cs.extract fo (fo + j.size)), ?_, ?_⟩
      · have h2 : (isAgg f.type).run P c.w = .ok true c.w := by
          rcases isAggK_of (by rw [← hkd]; exact hk) with ⟨fs, rfl⟩ | ⟨n, e, rfl⟩ <;> simp [isAgg, run_underlying hdd]
        simp [execOp, ho, Instr.field, run_underlying hd, hfi, hv, asAgg, Go.part, h2, hoff, sizeOf, typeInfo, hi]
      · have hlen : ((xs.drop fo).take fti.lk.length).length = fti.lk.length := by simp; omega
        refine .agg _ _ (by rw [hlen]; simp; omega) (fun p hp => ?_)
        rw [hlen] at hp
        rw [getD_part _ _ _ _ hp]
        have : (cs.extract fo (fo + j.size)).getD p undef = cs.getD (fo + p) undef := by
          simp only [Array.getD_eq_getD_getElem?, Array.getElem?_extract]
          rw [if_pos (by omega)]
        rw [this]
        exact hrep _ (by omega)
    | false =>
      have hl1 := hl hk
      refine ⟨cs.getD fo undef, ?_, hrep fo (by omega)⟩
      have h2 : (isAgg f.type).run P c.w = .ok false c.w := by
        rw [hkd] at hk
        cases dd <;> simp [kdOf, isAggK] at hk <;> simp [isAgg, run_underlying hdd]
      have h3 : fo < cs.size := by omega
      simp [execOp, ho, Instr.field, run_underlying hd, hfi, hv, asAgg, Go.part, h2, hoff, h3, Array.getD_eq_getD_getElem?]
end
end Go.Lm

/- One operation: structs and short slices that are built. -/
namespace Go.Lm
section
variable {R : Type} {P : Program} {T : Nat → Option TI} {C : Nat → Hd R}

theorem info_of_cells {t : TypeId} (h : P.cellsOf t ≠ 0) : ∃ j, P.info? t = some j ∧ j.size = P.cellsOf t := by
  unfold Program.cellsOf at h ⊢
  cases hq : P.info? t with
  | none => rw [hq] at h; simp at h
  | some j => exact ⟨j, rfl, by simp⟩
theorem placesL : ∀ (fs : List Field), (∀ f, f ∈ fs → P.cellsOf f.type ≠ 0) →
    (fs.mapM fun f => (P.info? f.type).map fun i => (f.offset, i.size)) = some (fs.map fun f => (f.offset, P.cellsOf f.type))
  | [], _ => by simp
  | f :: fs, h => by
    have ih := placesL fs (fun f hf => h f (List.mem_cons_of_mem _ hf))
    obtain ⟨j, hj, hjs⟩ := info_of_cells (h f (by simp))
    simp [List.mapM_cons, hj, ih, hjs]

theorem foldl_size (off : Nat) : ∀ (vs : List (Value × Nat)) (cs : Array Value), (vs.foldl (fun cs (p : Value × Nat) => cs.setIfInBounds (off + p.2) p.1) cs).size = cs.size
  | [], cs => rfl
  | v :: vs, cs => by simp [foldl_size off vs]
theorem foldl_get (off : Nat) : ∀ (vs : List Value) (k : Nat) (cs : Array Value) (i : Nat), off + k + vs.length ≤ cs.size →
    ((vs.zipIdx k).foldl (fun cs (p : Value × Nat) => cs.setIfInBounds (off + p.2) p.1) cs).getD i undef = if off + k ≤ i ∧ i < off + k + vs.length then vs.getD (i - (off + k)) undef else cs.getD i undef
  | [], k, cs, i, _ => by rw [if_neg (fun h => by simp at h; omega)]; rfl
  | v :: vs, k, cs, i, h => by
    simp only [List.zipIdx_cons, List.foldl_cons]
    simp only [List.length_cons] at h
    rw [foldl_get off vs (k + 1) _ i (by simp; omega)]
    by_cases h1 : i = off + k
    · subst h1
      rw [if_neg (by omega), if_pos (by simp)]
      have : off + k < cs.size := by omega
      simp [Array.getD_eq_getD_getElem?, this]
    · have hset : (cs.setIfInBounds (off + k) v).getD i undef = cs.getD i undef := by
        simp [Array.getD_eq_getD_getElem?, Array.getElem?_setIfInBounds_ne (Ne.symm h1)]
      by_cases h2 : off + (k + 1) ≤ i ∧ i < off + (k + 1) + vs.length
      · rw [if_pos h2, if_pos (by simp; omega)]
        have : i - (off + k) = (i - (off + (k + 1))) + 1 := by omega
        rw [this, List.getD_cons_succ]
      · rw [if_neg h2, if_neg (by simp; omega), hset]

theorem fill_one {c : Cx} {z : List LV} {cells : Array Value} {v : LV} {u : Value} {o n : Nat} (hs : cells.size = z.length) (hr : ∀ i, i < z.length → Rep c (z.getD i .any) (cells.getD i undef) [])
    (ho : ∀ i, i < cells.size → (cells.getD i undef).oneCell' = true) (hv : Rep c v u []) (hn : (cellsOf v).length = n) (h1 : (cellsOf v).all one = true) (hb : o + n ≤ z.length) :
    let cells' := u.cells.zipIdx.foldl (fun cs (p : Value × Nat) => cs.setIfInBounds (o + p.2) p.1) cells
    u.cells.size = n ∧ cells'.size = (setFrom z o (cellsOf v)).length ∧ (∀ i, i < (setFrom z o (cellsOf v)).length → Rep c ((setFrom z o (cellsOf v)).getD i .any) (cells'.getD i undef) []) ∧ ∀ i, i < cells'.size → (cells'.getD i undef).oneCell' = true := by
  obtain ⟨hus, hur, hu1⟩ := rep_cells hv h1
  have e : u.cells.zipIdx.foldl (fun cs (p : Value × Nat) => cs.setIfInBounds (o + p.2) p.1) cells = (u.cells.toList.zipIdx 0).foldl (fun cs (p : Value × Nat) => cs.setIfInBounds (o + p.2) p.1) cells := by
    rw [← Array.foldl_toList]; simp
  have hg : ∀ i, ((u.cells.toList.zipIdx 0).foldl (fun cs (p : Value × Nat) => cs.setIfInBounds (o + p.2) p.1) cells).getD i undef = if o ≤ i ∧ i < o + (cellsOf v).length then u.cells.getD (i - o) undef else cells.getD i undef := fun i => by
    rw [foldl_get o _ 0 _ _ (by simp; omega)]
    simp only [Nat.add_zero, Array.length_toList, hus]
    congr 1
    simp [List.getD_eq_getElem?_getD, Array.getD_eq_getD_getElem?]
  intro cells'
  have ec : cells' = (u.cells.toList.zipIdx 0).foldl (fun cs (p : Value × Nat) => cs.setIfInBounds (o + p.2) p.1) cells := e
  have hsz : cells'.size = cells.size := by rw [ec]; exact foldl_size o _ _
  refine ⟨by omega, by rw [hsz, setFrom_len, hs], fun i hi => ?_, fun i hi => ?_⟩
  · rw [setFrom_len] at hi
    rw [setFrom_get _ _ _ _ hi, ec, hg]
    split
    · exact hur _ (by omega)
    · exact hr i hi
  · rw [ec, hg]
    split
    · exact hu1 _ (by omega)
    · exact ho i (by omega)

theorem fillP_ok {c : Cx} {fs : List (Nat × Nat × TypeId)} {place : Nat → Option (Nat × Nat)} (hp : ∀ i o n t, fs[i]? = some (o, n, t) → place i = some (o, n)) :
    ∀ (is : List Nat) (vs : List LV) (us : List Value) (z : List LV) (cells : Array Value) (z' : List LV), fillP fs is vs z = some z' → is.length = us.length → (∀ i, i < us.length → Rep c (vs.getD i .any) (us.getD i undef) []) →
      cells.size = z.length → (∀ i, i < z.length → Rep c (z.getD i .any) (cells.getD i undef) []) → (∀ i, i < cells.size → (cells.getD i undef).oneCell' = true) →
      ∃ cells', Instr.fill place cells (is.zip us) = some cells' ∧ cells'.size = z'.length ∧ (∀ i, i < z'.length → Rep c (z'.getD i .any) (cells'.getD i undef) []) ∧ ∀ i, i < cells'.size → (cells'.getD i undef).oneCell' = true
  | [], vs, us, z, cells, z', h, hl, hu, hs, hr, ho => by
    simp only [fillP] at h; cases h
    exact ⟨cells, rfl, hs, hr, ho⟩
  | i :: is, vs, [], z, cells, z', h, hl, hu, hs, hr, ho => by simp at hl
  | i :: is, vs, u :: us, z, cells, z', h, hl, hu, hs, hr, ho => by
    simp only [fillP] at h
    split at h
    · rename_i o n t v vs' hf
      split at h
      · rename_i hb
        rw [Bool.and_eq_true, Bool.and_eq_true] at hb
        have hn := Nat.eq_of_beq_eq_true hb.1.1
        have hle := Nat.le_of_ble_eq_true hb.2
        have hv : Rep c v u [] := by simpa using hu 0 (by simp)
        obtain ⟨h1, h2, h3, h4⟩ := fill_one hs hr ho hv hn hb.1.2 hle
        obtain ⟨cells', hf', hrest⟩ := fillP_ok hp is vs' us _ _ z' h (by simpa using hl) (fun j hj => by simpa using hu (j + 1) (by simp; omega)) h2 h3 h4
        refine ⟨cells', ?_, hrest⟩
        simp only [List.zip_cons_cons, Instr.fill, hp i o n t hf]
        rw [if_neg (by simp; omega)]
        exact hf'
      · cases h
    · cases h

theorem ok_build {o : Oper} {q : Q} {t : TypeId} {ti : TI} {ps : Array (Nat × Operand)} {z : List LV} (ho : o.op = .build t ps) (ht : tiOf P t = some ti) (hk : ti.kd = .struct)
    (hz : fillP ti.fs (ps.toList.map (·.1)) (ps.toList.map fun p => dup (ev q.E p.2)) ti.zero = some z) : OpOk P q o (.agg z) none q := by
  obtain ⟨i, d, hi, hd, hkd, hlk, z0, hz0, hzs, hz1, hzl⟩ := tiOf_und ht
  obtain ⟨fs, hdf, hfs, hn⟩ := tiOf_struct ht hk
  refine op_pure fun fr a c hr => ?_
  obtain ⟨cells', h1, h2, h3, h4⟩ := fillP_ok (c := c) (place := (((fs.toList.map fun f => (f.offset, P.cellsOf f.type)).toArray)[·]?)) (fun i o n t hf => by
      rw [hfs, List.getElem?_map] at hf
      cases hq : fs.toList[i]? with
      | none => rw [hq] at hf; simp at hf
      | some f => rw [hq] at hf; simp at hf; simp; have := hq; simp at this; exact ⟨f, this, hf.1, hf.2.1⟩)
    _ _ (ps.toList.map fun p => a.eval p.2) _ z0.cells z hz (by simp) (fun j hj => by
      have hj' : j < ps.size := by simpa using hj
      have := hr.evd (ps[j]).2
      simpa [List.getD_eq_getElem?_getD, hj'] using this) (by rw [hzl]; simp) (fun j hj => by
      rw [hzl, getD_toList_map _ _ (by rw [hzl] at hj; simpa using hj)]; exact rep_ofVal _ _) hz1
  refine ⟨.agg cells', ?_, .agg z cells' h2 h3⟩
  have hb : P.built t ((ps.map fun p => (p.1, a.eval p.2)).toList) = some cells' := by
    unfold Program.built
    rw [hi, hdf]
    simp only [hz0, placesL fs.toList hn]
    rw [← h1]
    congr 1
    simp only [Array.toList_map]
    induction ps.toList with
    | nil => rfl
    | cons p l ih => simp [ih]
  have := run_build (P := P) c.w t _ cells' hb
  simp [execOp, ho, this]
end
end Go.Lm
