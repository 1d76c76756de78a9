/- The relation between the interpreter's state and the machine's, and how it is kept. -/
import Derived.Test.YtefkkflmiabfeaaGreatDoorLmB
set_option linter.unusedVariables false
set_option linter.unusedSimpArgs false
namespace Go.Lm

inductive Key where
  | env (t : Nat) | sto (id : Nat) | arg (i : Nat)
  deriving DecidableEq
abbrev Ow := Key → List Nat
structure Sep (o : Ow) : Prop where
  nd : ∀ k, (o k).Nodup
  dj : ∀ k k' g, k ≠ k' → g ∈ o k → g ∉ o k'

/-- The machine's name of a store's object. -/
def oval : LV → Nat → Value
  | .mp _ _, b => .map (some b)
  | _, b => .pointer (some ⟨b, 0, none⟩)

/-- The store's part. -/
structure Sto (c : Cx) (S : List LV) (o : Ow) : Prop where
  n : c.n = S.length
  r : ∀ id, id < S.length → Rep c (S.getD id .any) (oval (S.getD id .any) (c.ι id)) (o (.sto id))
  bd : ∀ b p, c.I b p → b < c.w.heap.size

/-- Where a call began: the reading, and which blocks it may turn. -/
structure Fr where
  c : Cx
  M : Nat → Prop

structure RelO (fr : Fr) (q : Q) (a : Act) (c : Cx) (xs : List LV) (vs : List Value) (o : Ow) : Prop where
  len : q.E.length = a.tmps.size
  alen : q.A.length ≤ q.E.length
  env : ∀ t, t < q.E.length → Rep c (q.E.getD t .any) (a.tmps.getD t undef) (o (.env t))
  al : ∀ t d p, q.A.getD t none = some (d, p) → t < q.E.length ∧ d < q.E.length ∧ ∃ g, a.tmps.getD d undef = .pointer (some ⟨g, 0, none⟩) ∧ a.tmps.getD t undef = .pointer (some ⟨g, p, none⟩)
  sto : Sto c q.S o
  fly : ∀ i, i < xs.length → Rep c (xs.getD i .any) (vs.getD i undef) (o (.arg i))
  flyl : vs.length = xs.length
  sep : Sep o
  ext : Ext fr.c c fr.M
  own : ∀ k g, g ∈ o k → g < c.w.heap.size ∧ (fr.M g ∨ fr.c.w.heap.size ≤ g)
  df : a.defers = []
def RelX (fr : Fr) (q : Q) (a : Act) (c : Cx) (xs : List LV) (vs : List Value) : Prop := ∃ o, RelO fr q a c xs vs o
def Rel (fr : Fr) (q : Q) (a : Act) (c : Cx) : Prop := RelX fr q a c [] []

def upd (o : Ow) (k : Key) (l : List Nat) : Ow := fun k' => if k' = k then l else o k'
theorem upd_same (o : Ow) (k : Key) (l : List Nat) : upd o k l k = l := by simp [upd]
theorem upd_other (o : Ow) {k k' : Key} (l : List Nat) (h : k' ≠ k) : upd o k l k' = o k' := by simp [upd, h]
theorem Sep.drop {o : Ow} (h : Sep o) (k : Key) : Sep (upd o k []) where
  nd k' := by unfold upd; split <;> simp [h.nd]
  dj k1 k2 g h12 h1 := by
    unfold upd at h1 ⊢
    split at h1
    · simp at h1
    · split
      · simp
      · exact h.dj k1 k2 g h12 h1
theorem Sep.move {o : Ow} (h : Sep o) {k k' : Key} (_hne : k ≠ k') : Sep (upd (upd o k' (o k)) k []) where
  nd k1 := by
    unfold upd; split
    · simp
    · split <;> simp [h.nd]
  dj k1 k2 g h12 h1 := by
    unfold upd at h1 ⊢
    split at h1
    · simp at h1
    · rename_i hk1
      split
      · simp
      · rename_i hk2
        split at h1
        · rename_i e1
          split
          · rename_i e2; exact absurd (e1.trans e2.symm) h12
          · exact h.dj _ _ g (fun e => hk2 e.symm) h1
        · split
          · exact h.dj _ _ g hk1 h1
          · exact h.dj _ _ g h12 h1

theorem clearA_get (d : Nat) : ∀ (A : List (Option (Nat × Nat))) (t e p : Nat), (clearA d A).getD t none = some (e, p) → A.getD t none = some (e, p) ∧ e ≠ d
  | [], t, e, p, h => by simp [clearA] at h
  | some (e', o') :: A, 0, e, p, h => by
    simp only [clearA, List.getD_cons_zero] at h ⊢
    split at h
    · cases h
    · rename_i hb
      cases h
      exact ⟨rfl, fun he => by subst he; simp at hb⟩
  | none :: A, 0, e, p, h => by simp [clearA] at h
  | some (e', o') :: A, t + 1, e, p, h => by
    simp only [clearA, List.getD_cons_succ] at h ⊢
    exact clearA_get d A t e p h
  | none :: A, t + 1, e, p, h => by
    simp only [clearA, List.getD_cons_succ] at h ⊢
    exact clearA_get d A t e p h
theorem clearA_len (d : Nat) (A : List (Option (Nat × Nat))) : (clearA d A).length = A.length := by
  induction A with
  | nil => rfl
  | cons z A ih => cases z with
    | none => simp [clearA, ih]
    | some z => obtain ⟨z1, z2⟩ := z; simp [clearA, ih]
theorem put_get_ne (a : Act) (d t : Nat) (v : Value) (h : t ≠ d) : (a.put (some d) v).tmps.getD t undef = a.tmps.getD t undef := by
  simp [Act.put, Array.getD_eq_getD_getElem?, Array.getElem?_setIfInBounds_ne (Ne.symm h)]
theorem put_get_eq (a : Act) (d : Nat) (v : Value) (h : d < a.tmps.size) : (a.put (some d) v).tmps.getD d undef = v := by
  simp [Act.put, Array.getD_eq_getD_getElem?, h]

/-- A slot is written: what is in flight goes there. -/
theorem RelO.put {fr : Fr} {q : Q} {a : Act} {c : Cx} {x : LV} {v : Value} {o : Ow} (h : RelO fr q a c [x] [v] o) (d : Option Tmp)
    (al : Option (Nat × Nat)) (hal : ∀ e p, al = some (e, p) → e < q.E.length ∧ ∃ g, a.tmps.getD e undef = .pointer (some ⟨g, 0, none⟩) ∧ v = .pointer (some ⟨g, p, none⟩)) :
    ∃ o', RelO fr (q.put d x al) (a.put d v) c [] [] o' := by
  cases d with
  | none =>
    refine ⟨upd o (.arg 0) [], h.len, h.alen, fun t ht => ?_, h.al, ⟨h.sto.n, fun id hid => ?_, h.sto.bd⟩, fun i hi => absurd hi (by simp), rfl, h.sep.drop _, h.ext, fun k g hg => ?_, h.df⟩
    · rw [upd_other _ _ (by simp)]; exact h.env t ht
    · rw [upd_other _ _ (by simp)]; exact h.sto.r id hid
    · unfold upd at hg; split at hg
      · simp at hg
      · exact h.own k g hg
  | some d =>
    have hlenE : (q.put (some d) x al).E.length = q.E.length := by simp [Q.put]
    refine ⟨upd (upd o (.env d) (o (.arg 0))) (.arg 0) [], ?_, ?_, fun t ht => ?_, fun t e p hp => ?_, ⟨h.sto.n, fun id hid => ?_, h.sto.bd⟩, fun i hi => absurd hi (by simp), rfl, h.sep.move (by simp), h.ext, fun k g hg => ?_, h.df⟩
    · simp [Q.put, Act.put, h.len]
    · have := h.alen; simp [Q.put, clearA_len]; exact this
    · rw [hlenE] at ht
      rw [upd_other _ _ (by simp)]
      by_cases e : t = d
      · subst e
        rw [upd_same]
        have h0 := h.fly 0 (by simp)
        simp only [List.getD_cons_zero] at h0
        have ht' : t < a.tmps.size := by rw [← h.len]; exact ht
        simpa [Q.put, Act.put, List.getD_eq_getElem?_getD, ht, ht', Array.getD_eq_getD_getElem?] using h0
      · rw [upd_other _ _ (by simp [e])]
        have h0 := h.env t ht
        simpa [Q.put, Act.put, List.getD_eq_getElem?_getD, Array.getD_eq_getD_getElem?, List.getElem?_set_ne (Ne.symm e), Array.getElem?_setIfInBounds_ne (Ne.symm e)] using h0
    · have hput : (q.put (some d) x al).A.getD t none = if t = d then (if d < q.A.length then alOk d al else none) else (clearA d q.A).getD t none := by
        have hl := clearA_len d q.A
        by_cases e : t = d
        · subst e
          by_cases h2 : t < q.A.length <;> simp [Q.put, List.getD_eq_getElem?_getD, hl, h2]
        · simp [Q.put, List.getD_eq_getElem?_getD, List.getElem?_set_ne (Ne.symm e), e]
      rw [hput] at hp
      split at hp
      · rename_i e1
        subst e1
        split at hp
        · have hal' : al = some (e, p) ∧ e ≠ t := by
            unfold alOk at hp
            split at hp
            · split at hp
              · cases hp
              · rename_i hb; cases hp; exact ⟨rfl, fun he => by subst he; simp at hb⟩
            · cases hp
          obtain ⟨he, g, h1, h2⟩ := hal e p hal'.1
          have hed : e ≠ t := hal'.2
          rename_i hdl
          have htl : t < q.E.length := Nat.lt_of_lt_of_le hdl h.alen
          refine ⟨by rw [hlenE]; exact htl, by rw [hlenE]; exact he, g, ?_, ?_⟩
          · rw [put_get_ne _ _ _ _ hed]; exact h1
          · rw [put_get_eq _ _ _ (by rw [← h.len]; exact htl)]; exact h2
        · cases hp
      · rename_i e1
        obtain ⟨hp, he⟩ := clearA_get _ _ _ _ _ hp
        obtain ⟨ht, hd, g, h1, h2⟩ := h.al t e p hp
        refine ⟨by rw [hlenE]; exact ht, by rw [hlenE]; exact hd, g, ?_, ?_⟩
        · rw [put_get_ne _ _ _ _ he]; exact h1
        · rw [put_get_ne _ _ _ _ e1]; exact h2
    · rw [upd_other _ _ (by simp), upd_other _ _ (by simp)]; exact h.sto.r id hid
    · unfold upd at hg
      split at hg
      · simp at hg
      · split at hg
        · exact h.own _ g hg
        · exact h.own k g hg

theorem rep_ofVal (c : Cx) (v : Value) : Rep c (ofVal v) v [] := by
  unfold ofVal
  split
  · exact .int _ _
  · exact .bool _
  · exact .str _
  · exact .nilsl
  · exact .nilp
  · exact .nilm
  · exact .nilf
  · exact .nili
  · exact .any _
theorem getD_toList_map (cs : Array Value) (i : Nat) (h : i < cs.size) : (cs.toList.map ofVal).getD i .any = ofVal (cs.getD i undef) := by
  simp [List.getD_eq_getElem?_getD, Array.getD_eq_getD_getElem?, h]
theorem rep_const (c : Cx) (v : Value) : Rep c (ev [] (.const v)) v [] := by
  cases v with
  | agg cs =>
    have := Rep.agg (c := c) (cs.toList.map ofVal) cs (by simp) (fun i hi => by
      rw [getD_toList_map _ _ (by simpa using hi)]; exact rep_ofVal c _)
    exact this
  | bool b => exact rep_ofVal c (.bool b)
  | int k n => exact rep_ofVal c (.int k n)
  | float k n => exact rep_ofVal c (.float k n)
  | complex k n m => exact rep_ofVal c (.complex k n m)
  | string s => exact rep_ofVal c (.string s)
  | pointer p => exact rep_ofVal c (.pointer p)
  | slice x n m => exact rep_ofVal c (.slice x n m)
  | map p => exact rep_ofVal c (.map p)
  | chan p => exact rep_ofVal c (.chan p)
  | func f x y => exact rep_ofVal c (.func f x y)
  | nilFunc => exact rep_ofVal c .nilFunc
  | iface t v => exact rep_ofVal c (.iface t v)
  | nilIface => exact rep_ofVal c .nilIface
  | tuple x => exact rep_ofVal c (.tuple x)
theorem getD_app_lt {α : Type} (xs ys : List α) (d : α) (i : Nat) (h : i < xs.length) : (xs ++ ys).getD i d = xs.getD i d := by
  simp [List.getD_eq_getElem?_getD, List.getElem?_append_left h]
theorem ev_const (E : List LV) (v : Value) : ev E (.const v) = ev [] (.const v) := rfl

section
variable {fr : Fr} {q : Q} {a : Act} {c : Cx} {xs : List LV} {vs : List Value} {o : Ow}
theorem RelO.evo (h : RelO fr q a c xs vs o) (x : Operand) : ∃ O, Rep c (Lm.ev q.E x) (a.eval x) O := by
  cases x with
  | tmp t =>
    by_cases ht : t < q.E.length
    · exact ⟨_, h.env t ht⟩
    · refine ⟨[], ?_⟩
      have : ev q.E (.tmp t) = .any := by simp [Lm.ev, List.getD_eq_getElem?_getD, List.getElem?_eq_none (Nat.le_of_not_lt ht)]
      rw [this]; exact .any _
  | const v => exact ⟨[], by rw [ev_const]; exact rep_const c v⟩
  | func f => exact ⟨[], .fn f [] #[] rfl (fun i hi => absurd hi (by simp))⟩
  | global g => exact ⟨[], .any _⟩
theorem RelO.evd (h : RelO fr q a c xs vs o) (x : Operand) : Rep c (dup (Lm.ev q.E x)) (a.eval x) [] := by
  obtain ⟨O, r⟩ := h.evo x
  exact r.dup

/-- One more value in flight, that owns nothing. -/
theorem RelO.fly1 (h : RelO fr q a c xs vs o) {x : LV} {v : Value} (r : Rep c x v []) : ∃ o', RelO fr q a c (xs ++ [x]) (vs ++ [v]) o' := by
  refine ⟨upd o (.arg xs.length) [], h.len, h.alen, fun t ht => ?_, h.al, ⟨h.sto.n, fun id hid => ?_, h.sto.bd⟩, fun i hi => ?_, by simp [h.flyl], h.sep.drop _, h.ext, fun k g hg => ?_, h.df⟩
  · rw [upd_other _ _ (by simp)]; exact h.env t ht
  · rw [upd_other _ _ (by simp)]; exact h.sto.r id hid
  · by_cases e : i = xs.length
    · subst e; rw [upd_same]; rw [← h.flyl]; simpa [List.getD_eq_getElem?_getD, h.flyl] using r
    · have hi' : i < xs.length := by simp at hi; omega
      rw [upd_other _ _ (by simp [e])]
      have := h.fly i hi'
      rwa [getD_app_lt _ _ _ _ hi', getD_app_lt _ _ _ _ (by rw [h.flyl]; exact hi')]
  · unfold upd at hg; split at hg
    · simp at hg
    · exact h.own k g hg

/-- An operand is handed on. -/
theorem RelO.take (h : RelO fr q a c xs vs o) (x : Operand) : ∃ o', RelO fr (q.used x) a c (xs ++ [Lm.ev q.E x]) (vs ++ [a.eval x]) o' := by
  have hconst : ∀ x : Operand, (∀ t, x ≠ .tmp t) → Rep c (Lm.ev q.E x) (a.eval x) [] := fun x hx => by
    cases x with
    | tmp t => exact absurd rfl (hx t)
    | const v => rw [ev_const]; exact rep_const c v
    | func f => exact .fn f [] #[] rfl (fun i hi => absurd hi (by simp))
    | global g => exact .any _
  cases x with
  | const v => exact h.fly1 (hconst _ (by simp))
  | func f => exact h.fly1 (hconst _ (by simp))
  | global g => exact h.fly1 (hconst _ (by simp))
  | tmp t =>
    by_cases ht : t < q.E.length
    case neg =>
      have hE : (q.used (.tmp t)) = q := by
        have : q.E.set t (dup (q.E.getD t .any)) = q.E := List.set_eq_of_length_le (Nat.le_of_not_lt ht)
        simp only [Q.used, this]
      rw [hE]
      refine h.fly1 ?_
      have : Lm.ev q.E (.tmp t) = .any := by simp [Lm.ev, List.getD_eq_getElem?_getD, List.getElem?_eq_none (Nat.le_of_not_lt ht)]
      rw [this]; exact .any _
    have hlenE : (q.used (.tmp t)).E.length = q.E.length := by simp [Q.used]
    refine ⟨upd (upd o (.arg xs.length) (o (.env t))) (.env t) [], by rw [hlenE]; exact h.len, by rw [hlenE]; exact h.alen, fun t' ht' => ?_, fun t' d p hp => ?_, ⟨h.sto.n, fun id hid => ?_, h.sto.bd⟩, fun i hi => ?_, by simp [h.flyl], h.sep.move (by simp), h.ext, fun k g hg => ?_, h.df⟩
    · rw [hlenE] at ht'
      by_cases e : t' = t
      · subst e
        rw [upd_same]
        have := (h.env t' ht').dup
        simpa [Q.used, List.getD_eq_getElem?_getD, ht'] using this
      · rw [upd_other _ _ (by simp [e]), upd_other _ _ (by simp)]
        have := h.env t' ht'
        simpa [Q.used, List.getD_eq_getElem?_getD, List.getElem?_set_ne (Ne.symm e)] using this
    · rw [hlenE]; exact h.al t' d p hp
    · rw [upd_other _ _ (by simp), upd_other _ _ (by simp)]; exact h.sto.r id hid
    · rw [upd_other _ _ (by simp)]
      by_cases e : i = xs.length
      · subst e; rw [upd_same]; have := h.env t ht; rw [← h.flyl]; simpa [List.getD_eq_getElem?_getD, h.flyl, Lm.ev, Act.eval] using this
      · have hi' : i < xs.length := by simp at hi; omega
        rw [upd_other _ _ (by simp [e])]
        have := h.fly i hi'
        rwa [getD_app_lt _ _ _ _ hi', getD_app_lt _ _ _ _ (by rw [h.flyl]; exact hi')]
    · unfold upd at hg
      split at hg
      · simp at hg
      · split at hg
        · exact h.own _ g hg
        · exact h.own k g hg

theorem RelO.takes : ∀ (l : List Operand) {q : Q} {xs : List LV} {vs : List Value} {o : Ow}, RelO fr q a c xs vs o →
    ∃ o', RelO fr (takes l q).2 a c (xs ++ (takes l q).1) (vs ++ l.map a.eval) o'
  | [], q, xs, vs, o, h => ⟨o, by simpa [Lm.takes] using h⟩
  | x :: l, q, xs, vs, o, h => by
    obtain ⟨o1, h1⟩ := h.take x
    obtain ⟨o2, h2⟩ := RelO.takes l h1
    exact ⟨o2, by simpa [Lm.takes] using h2⟩

/-- The world turns, but for what is read. -/
theorem RelO.move {c' : Cx} {M : Nat → Prop} (h : RelO fr q a c xs vs o) (he : Ext c c' M) (hM : ∀ b, M b → c.w.heap.size ≤ b ∨ (∀ k, b ∉ o k) ∧ (fr.M b ∨ fr.c.w.heap.size ≤ b)) (hn : c'.n = c.n)
    (hbd : ∀ b p, c'.I b p → b < c'.w.heap.size) : RelO fr q a c' xs vs o := by
  have hO : ∀ k g, g ∈ o k → g < c.w.heap.size → ¬ M g := fun k g hg hlt hm => by
    rcases hM g hm with h1 | h1
    · omega
    · exact h1.1 k hg
  have rep : ∀ {x : LV} {v : Value} {k : Key}, Rep c x v (o k) → Rep c' x v (o k) := fun {x v k} r => r.ext he (fun g hg => hO k g hg (r.lt g hg))
  refine ⟨h.len, h.alen, fun t ht => rep (h.env t ht), h.al, ⟨by rw [hn]; exact h.sto.n, fun id hid => ?_, hbd⟩, fun i hi => rep (h.fly i hi), h.flyl, h.sep, ?_, fun k g hg => ⟨Nat.lt_of_lt_of_le (h.own k g hg).1 he.size, (h.own k g hg).2⟩, h.df⟩
  · rw [he.ι id (by rw [h.sto.n]; exact hid)]; exact rep (h.sto.r id hid)
  · refine h.ext.trans he (fun b hb hm => ?_)
    rcases hM b hm with h1 | h1
    · have := h.ext.size; omega
    · rcases h1.2 with h2 | h2
      · exact h2
      · omega
end
end Go.Lm
