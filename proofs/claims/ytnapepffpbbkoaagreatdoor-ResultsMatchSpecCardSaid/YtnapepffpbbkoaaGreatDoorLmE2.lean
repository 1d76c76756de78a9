/- One operation: strings, slices that are read, addresses. -/
import Derived.Test.YtnapepffpbbkoaaGreatDoorLmE
namespace Go.Lm
section
variable {R : Type} {P : Program} {T : Nat → Option TI} {C : Nat → Hd R}

theorem rep_sl {c : Cx} {sz : Nat} {xs : List LV} {v : Value} {O : List Nat} (h : Rep c (.sl sz xs) v O) :
    ∃ A cap, v = .slice A xs.length cap ∧ xs.length ≤ cap ∧ xs.length ≤ 9223372036854775807 ∧ (0 < xs.length → ∃ (b off : Nat) (cv : Nat → Value), A = some ⟨b, off, none⟩ ∧
      (∀ p, p < xs.length * sz → c.w.cell? ⟨b, off + p, none⟩ = some (cv p)) ∧ (∀ p, p < xs.length * sz → c.I b (off + p)) ∧ (∀ p, p < xs.length * sz → (cv p).oneCell' = true) ∧
      (∀ p, p < xs.length * sz → Rep c (leaf (xs.getD (p / sz) .any) (p % sz)) (cv p) [])) := by
  cases h with
  | sl0 _ a cap _ => exact ⟨a, cap, rfl, Nat.zero_le _, by simp, fun h => absurd h (by simp)⟩
  | sl _ b off cap _ cv hcap hmax hc hI h1 hr => exact ⟨_, cap, rfl, hcap, hmax, fun _ => ⟨b, off, cv, rfl, hc, hI, h1, hr⟩⟩

theorem rep_sl_nil {c : Cx} {sz : Nat} {xs : List LV} {n cap : Nat} {O : List Nat} (h : Rep c (.sl sz xs) (.slice none n cap) O) : xs = [] ∧ n = 0 ∧ cap = 0 := by
  cases h with
  | sl0 _ _ _ hn => exact ⟨rfl, rfl, hn rfl⟩

theorem ok_not {o : Oper} {q : Q} {t : TypeId} {x : Operand} {b : Bool} (ho : o.op = .unOp .not t x) (hb : ev q.E x = .bool b) : OpOk P q o (.bool (!b)) none q :=
  op_pure fun fr a c hr => ⟨.bool (!b), by simp [execOp, ho, hr.evBool hb, Op.unary], .bool _⟩

theorem run_call_builtin {o : Oper} {a : Act} {w w' : World} {b : Builtin} {as : Array Operand} {ts : Array TypeId} {v : Value} (ho : o.op = .call { callee := .builtin b, args := as, argTypes := ts })
    (h : (builtin b ts o.type (as.map fun | .const _ => true | _ => false) (as.map a.eval)).run P w = .ok (.value v) w') : (execOp a.eval o).run P w = .ok (.value v) w' := by
  simp [execOp, ho, resolve, invoke]
  exact h

theorem ok_lenStr {o : Oper} {q : Q} {x : Operand} {ts : Array TypeId} {t : TypeId} {s : ByteArray} (ho : o.op = .call { callee := .builtin .len, args := #[x], argTypes := ts })
    (ht : ts[0]? = some t) (hd : P.underlying t = some .string) (hx : ev q.E x = .str s) : OpOk P q o (.int .i64 s.size) none q :=
  op_pure fun fr a c hr => ⟨.int .i64 s.size, run_call_builtin ho (by
    simp [builtin, Builtin.len_, ht, run_underlying hd, hr.evStr hx, goInt]), .int _ _⟩
theorem ok_lenSl {o : Oper} {q : Q} {x : Operand} {ts : Array TypeId} {t e : TypeId} {n : Nat} (ho : o.op = .call { callee := .builtin .len, args := #[x], argTypes := ts })
    (ht : ts[0]? = some t) (hd : P.underlying t = some (.slice e)) (hx : ∀ {c : Cx} {w : Value} {O : List Nat}, Rep c (ev q.E x) w O → ∃ A cap, w = .slice A n cap) : OpOk P q o (.int .i64 n) none q :=
  op_pure fun fr a c hr => ⟨.int .i64 n, run_call_builtin ho (by
    obtain ⟨O, r⟩ := hr.evr x
    obtain ⟨A, cap, h⟩ := hx r
    simp [builtin, Builtin.len_, ht, run_underlying hd, h, goInt]), .int _ _⟩

theorem ok_convInt {o : Oper} {q : Q} {x : Operand} {s t : TypeId} {k k' : IntKind} {n : Int} (ho : o.op = .convert s t x)
    (hs : P.underlying s = some (.int k)) (ht : P.underlying t = some (.int k')) (hx : ev q.E x = .int k n) : OpOk P q o (.int k' (k'.wrap n)) none q :=
  op_pure fun fr a c hr => ⟨.int k' (k'.wrap n), by
    simp [execOp, ho, convert, run_underlying hs, run_underlying ht, hr.evInt hx, Conv.intToInt], .int _ _⟩
theorem ok_convStr {o : Oper} {q : Q} {x : Operand} {s t : TypeId} {b : ByteArray} (ho : o.op = .convert s t x)
    (hs : P.underlying s = some .string) (ht : P.underlying t = some .string) (hx : ev q.E x = .str b) : OpOk P q o (.str b) none q :=
  op_pure fun fr a c hr => ⟨.string b, by
    simp [execOp, ho, convert, run_underlying hs, run_underlying ht, hr.evStr hx], .str _⟩

theorem ok_idxStr {o : Oper} {q : Q} {t : TypeId} {x i : Operand} {s : ByteArray} {n : Int} (ho : o.op = .index t x i) (hd : P.underlying t = some .string) (hx : ev q.E x = .str s) {ki : IntKind} (hi : ev q.E i = .int ki n)
    (h0 : 0 ≤ n) (h1 : n < s.size) : OpOk P q o (.int .u8 (bt s n)) none q :=
  op_pure fun fr a c hr => ⟨.int .u8 (bt s n), by
    have hlt : n.toNat < s.size := by omega
    simp [execOp, ho, Instr.index, hr.evStr hx, hr.evInt hi, asIntOf, run_underlying hd, h0, bt, hlt], .int _ _⟩

/-- The bounds of a cut, as they stand in the slots. -/
def optInt (E : List LV) (x : Option Operand) (d n : Int) : Prop := match x with
  | some x => ∃ k, ev E x = .int k n
  | none => n = d
theorem intOr_some {E : List LV} {x : Option Operand} {d : Int} {K : Int → Option R} {r : R} (h : intOr E x d K = some r) : ∃ n, optInt E x d n ∧ K n = some r := by
  cases x with
  | none => exact ⟨d, rfl, h⟩
  | some x => obtain ⟨k, n, hn, h⟩ := asI_some h; exact ⟨n, ⟨k, hn⟩, h⟩
theorem run_bounds {fr : Fr} {q : Q} {a : Act} {c : Cx} (hr : Rel fr q a c) (isSlice : Bool) (len cap : Nat) (lo hi : Option Operand) (l h : Int) (hl : optInt q.E lo 0 l) (hh : optInt q.E hi len h)
    (h0 : 0 ≤ l) (h1 : l ≤ h) (h2 : h ≤ len) (h3 : len ≤ cap) : (Instr.sliceBounds isSlice len cap (lo.map a.eval) (hi.map a.eval) none).run P c.w = .ok (l.toNat, h.toNat, cap) c.w := by
  have b1 : ∀ (k : IntKind) (i : Int) (y : Nat) (code : BoundsCode), 0 ≤ i → i ≤ y → (Instr.sliceBound (.int k i) y code).run P c.w = .ok i.toNat c.w := fun k i y code h0 h1 => by
    simp [Instr.sliceBound, asIntOf, h0, h1]
  cases lo with
  | none =>
    simp only [optInt] at hl
    cases hi with
    | none =>
      simp only [optInt] at hh
      subst hl; subst hh
      simp [Instr.sliceBounds]
    | some hi =>
      simp only [optInt] at hh
      subst hl
      obtain ⟨kh, hh⟩ := hh
      simp [Instr.sliceBounds, hr.evInt hh, b1 kh h cap _ (by omega) (by omega)]
  | some lo =>
    simp only [optInt] at hl
    cases hi with
    | none =>
      simp only [optInt] at hh
      subst hh
      obtain ⟨kl, hl⟩ := hl
      simp [Instr.sliceBounds, hr.evInt hl, b1 kl l len _ h0 (by omega)]
    | some hi =>
      simp only [optInt] at hh
      obtain ⟨kl, hl⟩ := hl
      obtain ⟨kh, hh⟩ := hh
      simp [Instr.sliceBounds, hr.evInt hl, hr.evInt hh, b1 kh h cap _ (by omega) (by omega), b1 kl l h.toNat _ h0 (by omega)]

theorem ok_slStr {o : Oper} {q : Q} {t : TypeId} {x : Operand} {lo hi : Option Operand} {s : ByteArray} {l h : Int} (ho : o.op = .slice t x lo hi none) (hd : P.underlying t = some .string) (hx : ev q.E x = .str s)
    (hl : optInt q.E lo 0 l) (hh : optInt q.E hi s.size h) (h0 : 0 ≤ l) (h1 : l ≤ h) (h2 : h ≤ s.size) : OpOk P q o (.str (s.extract l.toNat h.toNat)) none q :=
  op_pure fun fr a c hr => ⟨.string (s.extract l.toNat h.toNat), by
    have hb := run_bounds (P := P) hr false s.size s.size lo hi l h hl hh h0 h1 h2 (Nat.le_refl _)
    simp [execOp, ho, Instr.sliceAt, Instr.slice, run_underlying hd, hr.evStr hx, hb], .str _⟩

theorem getD_cut (xs : List LV) (l h i : Nat) (hi : i < h - l) : ((xs.take h).drop l).getD i .any = xs.getD (l + i) .any := by
  simp only [List.getD_eq_getElem?_getD, List.getElem?_drop, List.getElem?_take]
  rw [if_pos (by omega)]
theorem rep_cut {c : Cx} {sz : Nat} {xs : List LV} {v : Value} (h : Rep c (.sl sz xs) v []) (l hh : Nat) (h1 : l ≤ hh) (h2 : hh ≤ xs.length) :
    ∃ A cap, v = .slice A xs.length cap ∧ xs.length ≤ cap ∧ Rep c (.sl sz ((xs.take hh).drop l)) (.slice (if cap = l then A else A.map (·.add (l * sz))) (hh - l) (cap - l)) [] := by
  obtain ⟨A, cap, rfl, hcap, hmax, hcells⟩ := rep_sl h
  have hlen : ((xs.take hh).drop l).length = hh - l := by simp; omega
  refine ⟨A, cap, rfl, hcap, ?_⟩
  rcases Nat.eq_zero_or_pos (hh - l) with h3 | h3
  · have : (xs.take hh).drop l = [] := List.eq_nil_of_length_eq_zero (by omega)
    rw [this, h3]
    refine .sl0 _ _ _ fun hA => ?_
    have hA' : A = none ∨ cap = l := by
      by_cases e : cap = l
      · exact .inr e
      · rw [if_neg e] at hA
        cases A with
        | none => exact .inl rfl
        | some a => cases hA
    rcases hA' with rfl | rfl
    · rw [(rep_sl_nil h).2.2]; omega
    · omega
  · obtain ⟨b, off, cv, rfl, hc, hI, ho, hr⟩ := hcells (by omega)
    rw [if_neg (by omega)]
    simp only [Option.map_some]
    have hadd : (⟨b, off, none⟩ : Addr).add (l * sz) = ⟨b, off + l * sz, none⟩ := Addr.add_lit _ _ _
    rw [hadd]
    have hp : ∀ p, p < (hh - l) * sz → l * sz + p < xs.length * sz := fun p hp => by
      have : (hh - l) * sz + l * sz ≤ xs.length * sz := by rw [← Nat.add_mul]; exact Nat.mul_le_mul_right _ (by omega)
      omega
    have := Rep.sl (c := c) sz b (off + l * sz) (cap - l) ((xs.take hh).drop l) (fun p => cv (l * sz + p)) (by rw [hlen]; omega) (by omega)
      (fun p h => by rw [hlen] at h; rw [Nat.add_assoc]; exact hc _ (hp p h)) (fun p h => by rw [hlen] at h; rw [Nat.add_assoc]; exact hI _ (hp p h)) (fun p h => by rw [hlen] at h; exact ho _ (hp p h))
      (fun p h => by
        rw [hlen] at h
        have hsz : 0 < sz := Nat.pos_of_ne_zero fun e => by subst e; simp at h
        have e1 : (l * sz + p) / sz = l + p / sz := by rw [Nat.add_comm, Nat.add_mul_div_right _ _ hsz, Nat.add_comm]
        have e2 : (l * sz + p) % sz = p % sz := by rw [Nat.add_comm, Nat.add_mul_mod_self_right]
        have := hr _ (hp p h)
        rw [e1, e2] at this
        rw [getD_cut _ _ _ _ (Nat.div_lt_of_lt_mul (by rw [Nat.mul_comm]; exact h))]
        exact this)
    rw [hlen] at this
    exact this
theorem ok_slSl {o : Oper} {q : Q} {t e : TypeId} {i : TypeInfo} {x : Operand} {lo hi : Option Operand} {sz : Nat} {xs : List LV} {l h : Int} (ho : o.op = .slice t x lo hi none) (hd : P.underlying t = some (.slice e)) (he : P.info? e = some i) (hsz : i.size = sz)
    (hx : ∀ {c : Cx} {w : Value} {O : List Nat}, Rep c (ev q.E x) w O → Rep c (.sl sz xs) w [])
    (hl : optInt q.E lo 0 l) (hh : optInt q.E hi xs.length h) (h0 : 0 ≤ l) (h1 : l ≤ h) (h2 : h ≤ xs.length) : OpOk P q o (.sl sz ((xs.take h.toNat).drop l.toNat)) none q :=
  op_pure fun fr a c hr => by
    obtain ⟨O, r⟩ := hr.evr x
    obtain ⟨A, cap, hv, hcap, hrep⟩ := rep_cut (hx r) l.toNat h.toNat (by omega) (by omega)
    refine ⟨_, ?_, hrep⟩
    have hb := run_bounds (P := P) hr true xs.length cap lo hi l h hl hh h0 h1 h2 hcap
    subst hsz
    simp [execOp, ho, Instr.sliceAt, Instr.slice, run_underlying hd, hv, hb, sizeOf, typeInfo, he]

theorem ok_indexAddr {o : Oper} {q : Q} {t e : TypeId} {i : TypeInfo} {x ix : Operand} {sz : Nat} {xs : List LV} {n : Int} (ho : o.op = .indexAddr t x ix) (hd : P.underlying t = some (.slice e)) (he : P.info? e = some i) (hsz : i.size = sz)
    (hx : ∀ {c : Cx} {w : Value} {O : List Nat}, Rep c (ev q.E x) w O → Rep c (.sl sz xs) w []) {ki : IntKind} (hi : ev q.E ix = .int ki n) (h0 : 0 ≤ n) (h1 : n < xs.length) :
    OpOk P q o (.cptr (xs.getD n.toNat .any) sz 0) none q :=
  op_pure fun fr a c hr => by
    obtain ⟨O, r⟩ := hr.evr x
    obtain ⟨A, cap, hv, hcap, hmax, hcells⟩ := rep_sl (hx r)
    obtain ⟨b, off, cv, rfl, hc, hI, ho1, hr1⟩ := hcells (by omega)
    have hb : ∀ p, p < sz → n.toNat * sz + p < xs.length * sz := fun p hp => by
      have : (n.toNat + 1) * sz ≤ xs.length * sz := Nat.mul_le_mul_right _ (by omega)
      rw [Nat.add_mul] at this; omega
    refine ⟨.pointer (some ⟨b, off + n.toNat * sz, none⟩), ?_, ?_⟩
    · subst hsz
      simp [execOp, ho, Instr.indexAt, hr.evInt hi, asIntOf, run_underlying hd, hv, h0, h1, sizeOf, typeInfo, he, Addr.add_lit]
    · exact Rep.cptr (c := c) (xs.getD n.toNat .any) 0 sz b (off + n.toNat * sz) (fun p => cv (n.toNat * sz + p)) (Nat.zero_le _)
        (fun p hp => by rw [Nat.add_assoc]; exact hc _ (hb p hp)) (fun p hp => by rw [Nat.add_assoc]; exact hI _ (hb p hp)) (fun p hp => ho1 _ (hb p hp))
        (fun p hp => by
          have hsz0 : 0 < sz := by omega
          have e1 : (n.toNat * sz + p) / sz = n.toNat := by rw [Nat.add_comm, Nat.add_mul_div_right _ _ hsz0, Nat.div_eq_of_lt hp, Nat.zero_add]
          have e2 : (n.toNat * sz + p) % sz = p := by rw [Nat.add_comm, Nat.add_mul_mod_self_right, Nat.mod_eq_of_lt hp]
          have := hr1 _ (hb p hp)
          rw [e1, e2] at this
          exact this)
end
end Go.Lm
