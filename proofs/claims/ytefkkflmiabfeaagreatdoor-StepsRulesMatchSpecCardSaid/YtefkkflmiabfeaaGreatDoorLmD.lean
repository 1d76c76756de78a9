/- What is known of a program's types; a handler's promise; the statement on one operation. -/
import Derived.Test.YtefkkflmiabfeaaGreatDoorLmC
set_option linter.unusedVariables false
set_option linter.unusedSimpArgs false
namespace Go.Lm

def kdOf : TypeDesc → KD
  | .int k => .int k
  | .bool => .bool
  | .string => .str
  | .slice _ => .slice
  | .struct _ => .struct
  | .array _ _ => .array
  | .pointer _ => .ptr
  | .map _ _ => .map
  | .func _ _ _ => .func
  | .interface _ => .iface
  | _ => .oth
def lkOf (P : Program) : Nat → TypeId → List LK
  | 0, _ => []
  | n + 1, t => match P.underlying t with
    | some (.int k) => [.int k]
    | some .bool => [.bool]
    | some .string => [.str]
    | some (.slice e) => [.sl (P.cellsOf e)]
    | some (.struct fs) => fs.toList.flatMap fun f => lkOf P n f.type
    | some (.array len e) => (List.replicate len (lkOf P n e)).flatten
    | some (.pointer _) => [.ptr]
    | some (.map _ _) => [.map]
    | some (.func _ _ _) => [.fn]
    | _ => [.oth]
def zeroOk (i : TypeInfo) : Option (List LV) := match i.zero with
  | some z => match Nat.beq z.cells.size i.size && z.cells.all (·.oneCell') with
    | true => some (z.cells.toList.map ofVal)
    | false => none
  | none => none
/-- The parts of a struct whose '==' looks at its cells alone. -/
def eqKs (P : Program) : Nat → List Field → Option (List LK)
  | _, [] => some []
  | i, f :: fs => match Nat.beq f.offset i && !(f.name == "_"), P.underlying f.type with
    | true, some (.int k) => (eqKs P (i + 1) fs).map (.int k :: ·)
    | true, some .bool => (eqKs P (i + 1) fs).map (.bool :: ·)
    | true, some .string => (eqKs P (i + 1) fs).map (.str :: ·)
    | _, _ => none
def structEq (P : Program) (t : TypeId) (fs : Array Field) : Option (List LK) := match !(P.stoodInHeld t) && !(P.eqGuardType P.depth t) with
  | true => eqKs P 0 fs.toList
  | false => none
/-- A type's zero value. -/
def zvOf (i : TypeInfo) : LV := match i.zero with
  | some z => ev [] (.const z)
  | none => .any
/-- What is known of a type of a program. -/
def tiOf (P : Program) (t : TypeId) : Option TI := match P.info? t, P.underlying t with
  | some i, some d => match zeroOk i, Nat.beq (lkOf P 12 t).length i.size with
    | some z, true => match d with
      | .slice e => (match (P.info? e), (P.info? e).bind zeroOk with
        | some j, some _ => some { kd := .slice, lk := lkOf P 12 t, zero := z, esz := j.size, ebytes := j.bytes, el := e, zv := zvOf i }
        | _, _ => none)
      | .struct fs => (match fs.toList.all (fun f => !Nat.beq (P.cellsOf f.type) 0) with
        | true => some { kd := .struct, lk := lkOf P 12 t, zero := z, fs := fs.toList.map fun f => (f.offset, P.cellsOf f.type, f.type), eq := structEq P t fs, zv := zvOf i }
        | false => none)
      | .array n e => some { kd := .array, lk := lkOf P 12 t, zero := z, el := e, len := n, esz := P.cellsOf e, zv := zvOf i }
      | .map k e => some { kd := .map, lk := lkOf P 12 t, zero := z, el := e, key := k, zv := zvOf i }
      | d => some { kd := kdOf d, lk := lkOf P 12 t, zero := z, zv := zvOf i }
    | _, _ => none
  | _, _ => none

/-- What a call comes to. -/
def LCalls (P : Program) (f : FuncId) (args S : List LV) (r : LV) (S' : List LV) : Prop :=
  ∀ (c : Cx) (vs : List Value) (o : Ow), vs.length = args.length → (∀ i, i < args.length → Rep c (args.getD i .any) (vs.getD i undef) (o (.arg i))) → Sto c S o → Sep o → (∀ k g, g ∈ o k → g < c.w.heap.size) →
    Calls P f vs.toArray c.w fun e w' => ∃ c' v o', e = .returned v ∧ c'.w = w' ∧ Ext c c' (fun g => ∃ k, g ∈ o k) ∧ Rep c' r v (o' (.arg 0)) ∧ Sto c' S' o' ∧ Sep o' ∧
      (∀ k g, g ∈ o' k → g < w'.heap.size ∧ ((∃ k', g ∈ o k') ∨ c.w.heap.size ≤ g)) ∧ ∀ t, o' (.env t) = []

/-- A function with a body is entered. -/
def Enters (P : Program) (f : FuncId) : Prop := ∀ args w, (callFunc f args).run P w = .ok (.enter f args) w
/-- A handler's promise. -/
def HSound (P : Program) (f : FuncId) {R : Type} (h : Hd R) : Prop :=
  ∀ args S K r, h args S K = some r → Enters P f ∧ ∃ v S', LCalls P f args S v S' ∧ K v S' = some r

section
variable {R : Type} {P : Program} {T : Nat → Option TI} {C : Nat → Hd R}

/-- What one operation owes. -/
def OpOk (P : Program) (q : Q) (o : Oper) (x : LV) (al : Option (Nat × Nat)) (q' : Q) : Prop :=
  ∀ (fr : Fr) (a : Act) (c : Cx), Rel fr q a c → ∀ (next : Act → World → Prop) (Qp : Exit → Act → World → Prop),
    (∀ c' v, RelX fr q' a c' [x] [v] → (∀ e p, al = some (e, p) → e < q'.E.length ∧ ∃ g, a.tmps.getD e undef = .pointer (some ⟨g, 0, none⟩) ∧ v = .pointer (some ⟨g, p, none⟩)) → next (a.put o.dst v) c'.w) →
    o.wp P a c.w next Qp

theorem ifB_some {c : Bool} {t e : Option R} {r : R} (h : ifB c t e = some r) : (c = true ∧ t = some r) ∨ (c = false ∧ e = some r) := by
  cases c
  · exact .inr ⟨rfl, h⟩
  · exact .inl ⟨rfl, h⟩
theorem asBool_some {v : LV} {K : Bool → Option R} {r : R} (h : asBool v K = some r) : ∃ b, v = .bool b ∧ K b = some r := by
  cases v <;> simp [asBool] at h
  exact ⟨_, rfl, h⟩

theorem rep_bool {c : Cx} {b : Bool} {v : Value} {O : List Nat} (h : Rep c (.bool b) v O) : v = .bool b := by cases h; rfl
theorem rep_int {c : Cx} {k : IntKind} {n : Int} {v : Value} {O : List Nat} (h : Rep c (.int k n) v O) : v = .int k n := by cases h; rfl
theorem rep_str {c : Cx} {s : ByteArray} {v : Value} {O : List Nat} (h : Rep c (.str s) v O) : v = .string s := by cases h; rfl
theorem ikN_inj {k k' : IntKind} (h : Nat.beq (ikN k') (ikN k) = true) : k' = k := by
  have := Nat.eq_of_beq_eq_true h
  cases k <;> cases k' <;> first | rfl | (simp [ikN] at this)
theorem asInt_some {k : IntKind} {v : LV} {K : Int → Option R} {r : R} (h : asInt k v K = some r) : ∃ n, v = .int k n ∧ K n = some r := by
  cases v <;> simp only [asInt] at h <;> try (cases h; done)
  rcases ifB_some h with ⟨h1, h2⟩ | ⟨_, h2⟩
  · have := ikN_inj h1; subst this; exact ⟨_, rfl, h2⟩
  · cases h2
theorem asStr_some {v : LV} {K : ByteArray → Option R} {r : R} (h : asStr v K = some r) : ∃ s, v = .str s ∧ K s = some r := by
  cases v <;> simp [asStr] at h
  exact ⟨_, rfl, h⟩
theorem asFn_some {v : LV} {K : FuncId → List LV → Option R} {r : R} (h : asFn v K = some r) : ∃ f cs, v = .fn f cs ∧ K f cs = some r := by
  cases v <;> simp [asFn] at h
  exact ⟨_, _, rfl, h⟩
theorem asPtr_some {v : LV} {K : Nat → Nat → Option R} {r : R} (h : asPtr v K = some r) : ∃ i o, v = .ptr i o ∧ K i o = some r := by
  cases v <;> simp [asPtr] at h
  exact ⟨_, _, rfl, h⟩
theorem asMap_some {v : LV} {K : Nat → Option R} {r : R} (h : asMap v K = some r) : ∃ i, v = .map i ∧ K i = some r := by
  cases v <;> simp [asMap] at h
  exact ⟨_, rfl, h⟩
theorem mat_some {n : Nat} {v : LV} {K : List LV → Option R} {r : R} (h : mat n v K = some r) : ∃ xs, v = .agg xs ∧ xs.length = n ∧ K xs = some r := by
  cases v <;> simp only [mat] at h <;> try (cases h; done)
  rcases ifB_some h with ⟨h1, h⟩ | ⟨_, h⟩
  · exact ⟨_, rfl, Nat.eq_of_beq_eq_true h1, h⟩
  · cases h
/-- Whatever reads as a slice reads as one that is only read. -/
theorem asSl_some {sz : Nat} {v : LV} {K : List LV → Option R} {r : R} (h : asSl sz v K = some r) :
    ∃ xs, K xs = some r ∧ ∀ {c : Cx} {w : Value} {O : List Nat}, Rep c v w O → Rep c (.sl sz xs) w [] := by
  cases v <;> simp only [asSl] at h <;> try (cases h; done)
  · exact ⟨[], h, fun r => by cases r; exact .sl0 _ _ _ (fun _ => rfl)⟩
  · rcases ifB_some h with ⟨h1, h2⟩ | ⟨_, h2⟩
    · have := Nat.eq_of_beq_eq_true h1; subst this; exact ⟨_, h2, fun r => r.dup⟩
    · cases h2
  · rcases ifB_some h with ⟨h1, h2⟩ | ⟨_, h2⟩
    · have := Nat.eq_of_beq_eq_true h1; subst this; exact ⟨_, h2, fun r => r.dup⟩
    · cases h2
  · rcases ifB_some h with ⟨h1, h2⟩ | ⟨_, h2⟩
    · have := Nat.eq_of_beq_eq_true h1; subst this; exact ⟨_, h2, fun r => by cases r; assumption⟩
    · cases h2
end
end Go.Lm
