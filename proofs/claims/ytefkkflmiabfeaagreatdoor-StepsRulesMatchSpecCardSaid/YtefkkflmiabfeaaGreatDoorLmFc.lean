/- Regions whose order is drawn: operations that are handed owners, and calls. -/
import Derived.Test.YtefkkflmiabfeaaGreatDoorLmFa
set_option linter.unusedVariables false
set_option linter.unusedSimpArgs false
namespace Go.Lm
section
variable {R : Type} {P : Program} {T : Nat → Option TI} {C : Nat → Hd R}

def dupAt : List Nat → List LV → List LV
  | [], E => E
  | t :: U, E => dupAt U (E.set t (dup (E.getD t .any)))
abbrev Acts := List (Nat × (LV → LV))
/-- What becomes of some slots. -/
def actAt : Acts → List LV → List LV
  | [], E => E
  | (t, f) :: U, E => actAt U (E.set t (f (E.getD t .any)))
def dups (U : List Nat) : Acts := U.map fun t => (t, dup)
def us (U : Acts) : List Nat := U.map Prod.fst
theorem us_dups (U : List Nat) : us (dups U) = U := by
  unfold us dups
  rw [List.map_map]
  exact List.map_id U
theorem dupAt_act : ∀ (U : List Nat) (E : List LV), dupAt U E = actAt (dups U) E
  | [], _ => rfl
  | t :: U, E => dupAt_act U _
theorem actAt_ne : ∀ (U : Acts) (E : List LV) (s : Nat), s ∉ us U → (actAt U E).getD s .any = E.getD s .any
  | [], E, s, _ => rfl
  | (t, f) :: U, E, s, h => by
    have h : s ∉ t :: us U := h
    simp only [List.mem_cons, not_or] at h
    rw [actAt, actAt_ne U _ s h.2]
    simp only [List.getD_eq_getElem?_getD, List.getElem?_set_ne (Ne.symm h.1)]
theorem actAt_set : ∀ (U : Acts) (E : List LV) (d : Nat) (v : LV), d ∉ us U → actAt U (E.set d v) = (actAt U E).set d v
  | [], E, d, v, _ => rfl
  | (t, f) :: U, E, d, v, h => by
    have h : d ∉ t :: us U := h
    simp only [List.mem_cons, not_or] at h
    have : (E.set d v).getD t .any = E.getD t .any := by simp only [List.getD_eq_getElem?_getD, List.getElem?_set_ne h.1]
    rw [actAt, this, List.set_comm _ _ h.1, actAt_set U _ d v h.2]; rfl
theorem actAt_comm : ∀ (U V : Acts) (E : List LV), (∀ t, t ∈ us U → t ∉ us V) → actAt U (actAt V E) = actAt V (actAt U E)
  | [], _, _, _ => rfl
  | (t, f) :: U, V, E, h => by
    have ht := h t (by simp [us])
    rw [actAt, actAt, actAt_ne V E t ht, ← actAt_set V E t _ ht, actAt_comm U V _ fun s hs => h s (by simp only [us, List.map_cons, List.mem_cons]; exact .inr hs)]
def Q.giv (q : Q) (U : Acts) (S : Option (List LV)) : Q := { q with E := actAt U q.E, S := S.getD q.S }
def Q.give (q : Q) (U : List Nat) (S : List LV) : Q := { q with E := dupAt U q.E, S := S }
theorem give_giv (q : Q) (U : List Nat) (S : List LV) : q.give U S = q.giv (dups U) (some S) := by unfold Q.give Q.giv; rw [dupAt_act]; rfl
theorem give_giv0 (q : Q) (U : List Nat) : q.give U q.S = q.giv (dups U) none := by unfold Q.give Q.giv; rw [dupAt_act]; rfl
theorem dup_any : dup .any = .any := rfl
theorem getD_set_dup (E : List LV) (t s : Nat) : (E.set t (dup (E.getD t .any))).getD s .any = if s = t then dup (E.getD t .any) else E.getD s .any := by
  by_cases h : s = t
  · subst h
    rw [if_pos rfl]
    by_cases hl : s < E.length
    · simp [List.getD_eq_getElem?_getD, hl]
    · have : E.getD s .any = .any := by simp [List.getD_eq_getElem?_getD, List.getElem?_eq_none (Nat.le_of_not_lt hl)]
      rw [this, List.set_eq_of_length_le (Nat.le_of_not_lt hl), this]; rfl
  · rw [if_neg h]
    simp only [List.getD_eq_getElem?_getD, List.getElem?_set_ne (Ne.symm h)]
theorem used_give (q : Q) (x : Operand) : q.used x = q.give (tmpsOf [x]) q.S := by cases x <;> rfl
theorem takes_give : ∀ (xs : List Operand) (q : Q), (takes xs q).2 = q.give (tmpsOf xs) q.S
  | [], q => rfl
  | x :: xs, q => by
    rw [takes, takes_give xs, used_give]
    cases x <;> rfl
theorem ev_used {q q' : Q} {x y : Operand} (hx : ev q'.E x = ev q.E x) (hy : ev q'.E y = ev q.E y) : ev (q'.used x).E y = ev (q.used x).E y := by
  cases x with
  | tmp t =>
    cases y with
    | tmp s =>
      simp only [Q.used, ev] at *
      rw [getD_set_dup, getD_set_dup, hx, hy]
    | _ => exact hy
  | _ => exact hy
theorem takes_congr : ∀ (xs : List Operand) (q q' : Q), (∀ x, x ∈ xs → ev q'.E x = ev q.E x) → (takes xs q').1 = (takes xs q).1
  | [], _, _, _ => rfl
  | x :: xs, q, q', h => by
    rw [takes, takes, h x (by simp), takes_congr xs (q.used x) (q'.used x) (fun y hy => by
      exact ev_used (h x (by simp)) (h y (by simp [hy])))]
theorem noneHd (f : FuncId) : HSound P f (R := R) (fun _ _ _ => none) := fun _ _ _ _ h => by cases h

theorem asPtr_loc {v : LV} {K : Nat → Nat → Option R} {r : R} (h : asPtr v K = some r) : ∃ i o, K i o = some r ∧ ∀ {R' : Type} (K' : Nat → Nat → Option R'), asPtr v K' = K' i o := by
  obtain ⟨i, o, rfl, h⟩ := asPtr_some h
  exact ⟨i, o, h, fun K' => rfl⟩
theorem asMap_loc {v : LV} {K : Nat → Option R} {r : R} (h : asMap v K = some r) : ∃ i, K i = some r ∧ ∀ {R' : Type} (K' : Nat → Option R'), asMap v K' = K' i := by
  obtain ⟨i, rfl, h⟩ := asMap_some h
  exact ⟨i, h, fun K' => rfl⟩
theorem objAt_loc {S : List LV} {id : Nat} {K : (List LV → LV) → List LV → Option R} {r : R} (h : objAt S id K = some r) : ∃ ty xs, K ty xs = some r ∧ ∀ {R' : Type} (K' : (List LV → LV) → List LV → Option R'), objAt S id K' = K' ty xs := by
  obtain ⟨mk, ty, xs, hm, hx, h⟩ := objAt_some h
  exact ⟨mk, xs, h, fun K' => by unfold objAt; rw [hx]; rcases hm with rfl | rfl <;> rfl⟩
theorem mpAt_loc {S : List LV} {id : Nat} {kd : KD} {K : List (LV × LV) → Option R} {r : R} (h : mpAt S id kd K = some r) : ∃ xs, K xs = some r ∧ ∀ {R' : Type} (K' : List (LV × LV) → Option R'), mpAt S id kd K' = K' xs := by
  unfold mpAt at h
  split at h
  · rename_i d kvs hx
    rcases ifB_some h with ⟨h1, h⟩ | ⟨_, h⟩
    · exact ⟨kvs, h, fun K' => by unfold mpAt; rw [hx]; simp only [h1, ifB]⟩
    · cases h
  · cases h
theorem asOwn_loc {e z : Nat} {v : LV} {K : List LV → Option R} {r : R} (h : asOwn e z v K = some r) : ∃ xs, K xs = some r ∧ ∀ {R' : Type} (K' : List LV → Option R'), asOwn e z v K' = K' xs := by
  unfold asOwn at h
  split at h
  · rename_i e' z' ys
    rcases ifB_some h with ⟨h1, h⟩ | ⟨_, h⟩
    · exact ⟨ys, h, fun K' => by simp only [asOwn, h1, ifB]⟩
    · cases h
  · exact ⟨_, h, fun K' => rfl⟩
  · cases h
theorem stO_loc {xs : List LV} {p : Nat} {cs : List LV} {K : List LV → Option R} {r : R} (h : stO xs p cs K = some r) : ∃ ys, K ys = some r ∧ ∀ {R' : Type} (K' : List LV → Option R'), stO xs p cs K' = K' ys := by
  unfold stO at h
  rcases ifB_some h with ⟨h1, h⟩ | ⟨_, h⟩
  · exact ⟨_, h, fun K' => by simp only [stO, h1, ifB]⟩
  · cases h
theorem ldO_loc {t : TI} {xs : List LV} {p : Nat} {K : LV → Option R} {r : R} (h : ldO t xs p K = some r) : ∃ y, K y = some r ∧ ∀ {R' : Type} (K' : LV → Option R'), ldO t xs p K' = K' y := by
  unfold ldO at h
  split at h
  · rename_i hk
    rcases ifB_some h with ⟨h1, h⟩ | ⟨_, h⟩
    · obtain ⟨l, h, hl⟩ := decL_loc h
      exact ⟨_, h, fun K' => by simp only [ldO, hk, h1, ifB, hl]⟩
    · cases h
  · rename_i hk
    split at h
    · rename_i l hl
      unfold ldL at h
      rcases ifB_some h with ⟨h1, h⟩ | ⟨_, h⟩
      · obtain ⟨y, h, hy⟩ := dec_loc h
        exact ⟨y, h, fun K' => by simp only [ldO, hk, hl, ldL, h1, ifB, hy]⟩
      · cases h
    · cases h
theorem srcL_loc {k : KD} {ez z : Nat} {y : LV} {K : List LV → Option R} {r : R} (h : srcL k ez z y K = some r) : ∃ xs, K xs = some r ∧ ∀ {R' : Type} (K' : List LV → Option R'), srcL k ez z y K' = K' xs := by
  unfold srcL at h
  split at h
  · rcases ifB_some h with ⟨h1, h⟩ | ⟨_, h⟩
    · obtain ⟨xs, h, hx⟩ := asSl_loc h
      exact ⟨xs, h, fun K' => by simp only [srcL, h1, ifB, hx]⟩
    · cases h
  · rcases ifB_some h with ⟨h1, h⟩ | ⟨_, h⟩
    · obtain ⟨s, rfl, h⟩ := asStr_some h
      exact ⟨_, h, fun K' => by simp only [srcL, h1, ifB, asStr]⟩
    · cases h
  · cases h
theorem mkN_loc {n : Int} {b : Nat} {K : Nat → Option R} {r : R} (h : mkN n b K = some r) : ∃ m, K m = some r ∧ ∀ {R' : Type} (K' : Nat → Option R'), mkN n b K' = K' m := by
  unfold mkN at h
  rcases ifB_some h with ⟨h1, h⟩ | ⟨_, h⟩
  · exact ⟨_, h, fun K' => by simp only [mkN, h1, ifB]⟩
  · cases h
theorem cellsAt_loc {S : List LV} {id : Nat} {K : Nat → List LV → Option R} {r : R} (h : cellsAt S id K = some r) : ∃ ty xs, K ty xs = some r ∧ ∀ {R' : Type} (K' : Nat → List LV → Option R'), cellsAt S id K' = K' ty xs := by
  unfold cellsAt at h
  split at h
  · rename_i hx; exact ⟨_, _, h, fun K' => by unfold cellsAt; rw [hx]⟩
  · rename_i hx; exact ⟨_, _, h, fun K' => by unfold cellsAt; rw [hx]⟩
  · cases h
theorem appO_loc {e z bytes : Nat} {S : List LV} {v : LV} {ys : List LV} {K : LV → List LV → Option R} {r : R} (h : appO e z bytes S v ys K = some r) : ∃ x S', K x S' = some r ∧ ∀ {R' : Type} (K' : LV → List LV → Option R'), appO e z bytes S v ys K' = K' x S' := by
  unfold appO at h
  split at h
  · obtain ⟨ty, xs, h, h1⟩ := cellsAt_loc h
    rcases ifB_some h with ⟨h2, h⟩ | ⟨_, h⟩
    · exact ⟨_, _, h, fun K' => by simp only [appO, h1, h2, ifB]⟩
    · cases h
  · rcases ifB_some h with ⟨h2, h⟩ | ⟨_, h⟩
    · exact ⟨_, _, h, fun K' => by simp only [appO, h2, ifB]⟩
    · cases h
  · cases h
/-- Operations on the store: what they answer hangs on what they look at, and on the store. -/
def storeB (o : Oper) : Bool := match o.op with
  | .assign _ => false
  | .call c => (match c.callee with
    | .builtin .len => !(Nat.beq (flg o) 0)
    | .builtin .append => !(Nat.beq (flg o) 0)
    | _ => false)
  | _ => mildB o
theorem store_loc {ops : Array Oper} {o : Oper} {q : Q} (hs : storeB o = true) {K : LV → Option (Nat × Nat) → Q → Option R} {r : R} (h : lop T C o q K = some r) :
    takeB o = false ∧ ∃ x U S, K x none (q.giv U S) = some r ∧ (calmB o = true → S = none) ∧ (∀ t, t ∈ us U → t ∈ usedOf o) ∧ ∀ q', Agr ops o q q' → ∀ {R' : Type} (C' : Nat → Hd R') (K' : LV → Option (Nat × Nat) → Q → Option R'), lop T C' o q' K' = K' x none (q'.giv U S) := by
  unfold lop at h
  split at h <;> rename_i ho <;> simp only [storeB, mildB, ho, Bool.not_eq_true'] at hs <;> try (cases hs; done)
  -- alloc
  · rename_i e
    have hns : takeB o = false := by simp [takeB, stillB, ho, hs]
    have hnc : calmB o = false := by simp [calmB, hns, ho]
    refine ⟨hns, ?_⟩
    split at h
    · rename_i ti ht
      simp only [hs] at h
      exact ⟨_, [], some _, h, (fun hc => by rw [hnc] at hc; cases hc), (fun _ h => by cases h), fun q' ha R' C' K' => by simp only [lop, ho, ht, hs, newObj, ha.S hns]; rfl⟩
    · cases h
  -- box
  · rename_i e x
    have hns : takeB o = false := by simp [takeB, stillB, ho, hs]
    have hnc : calmB o = false := by simp [calmB, hns, ho]
    refine ⟨hns, ?_⟩
    split at h
    · rename_i ti ht
      simp only [hs] at h
      split at h
      · rename_i hz
        exact ⟨_, [], some _, h, (fun hc => by rw [hnc] at hc; cases hc), (fun _ h => by cases h), fun q' ha R' C' K' => by
          have e1 := ha.ev x (by rw [ho]; simp [Op.operands])
          simp only [lop, ho, ht, hs, newObj, ha.S hns, e1, hz]; rfl⟩
      · cases h
    · cases h
  -- makeMap
  · rename_i t
    have hns : takeB o = false := by simp [takeB, stillB, ho]
    have hnc : calmB o = false := by simp [calmB, hns, ho]
    refine ⟨hns, ?_⟩
    split at h
    · rename_i ti ht
      split at h
      · rename_i kt hk1 hk2
        exact ⟨_, [], some _, h, (fun hc => by rw [hnc] at hc; cases hc), (fun _ h => by cases h), fun q' ha R' C' K' => by simp only [lop, ho, ht, hk1, hk2, newObj, ha.S hns]; rfl⟩
      · cases h
    · cases h
  -- makeSlice
  · rename_i t x y
    have hns : takeB o = false := by simp [takeB, stillB, ho]
    have hnc : calmB o = false := by simp [calmB, hns, ho]
    refine ⟨hns, ?_⟩
    split at h
    · rename_i ti ht
      split at h
      · rename_i et k1 n k2 m hk1 hk2 hx hy
        rcases ifB_some h with ⟨h1, h⟩ | ⟨_, h⟩
        · obtain ⟨m', h, hm⟩ := mkN_loc h
          exact ⟨_, [], some _, h, (fun hc => by rw [hnc] at hc; cases hc), (fun _ h => by cases h), fun q' ha R' C' K' => by
            have e1 := ha.ev x (by rw [ho]; simp [Op.operands])
            have e2 := ha.ev y (by rw [ho]; simp [Op.operands])
            simp only [lop, ho, ht, hk1, hk2, e1, e2, hx, hy, h1, ifB, hm, newObj, ha.S hns]; rfl⟩
        · cases h
      · cases h
    · cases h
  -- lookup
  · rename_i t m k ok
    have hns : takeB o = false := by simp [takeB, stillB, ho]
    refine ⟨hns, ?_⟩
    split at h
    · rename_i ti ht
      split at h
      · rename_i kt et hk1 hk2 hk3
        obtain ⟨id, h, h1⟩ := asMap_loc h
        obtain ⟨kvs, h, h2⟩ := mpAt_loc h
        split at h
        · rename_i h3
          obtain ⟨v, h, h4⟩ := decT_loc h
          exact ⟨_, [], none, h, (fun _ => rfl), (fun _ h => by cases h), fun q' ha R' C' K' => by
            have e1 := ha.ev m (by rw [ho]; simp [Op.operands])
            have e2 := ha.ev k (by rw [ho]; simp [Op.operands])
            simp only [lop, ho, ht, hk1, hk2, hk3, e1, e2, ha.S hns, h1, h2, h3, h4]; rfl⟩
        · cases h
      · cases h
    · cases h
  -- mapUpdate
  · rename_i t m k y
    have hns : takeB o = false := by simp [takeB, stillB, ho]
    have hnc : calmB o = false := by simp [calmB, hns, ho]
    refine ⟨hns, ?_⟩
    split at h
    · rename_i ti ht
      split at h
      · rename_i kt hk1 hk2
        obtain ⟨id, h, h1⟩ := asMap_loc h
        obtain ⟨kvs, h, h2⟩ := mpAt_loc h
        split at h
        · rename_i h3
          exact ⟨_, [], some _, h, (fun hc => by rw [hnc] at hc; cases hc), (fun _ h => by cases h), fun q' ha R' C' K' => by
            have e1 := ha.ev m (by rw [ho]; simp [Op.operands])
            have e2 := ha.ev k (by rw [ho]; simp [Op.operands])
            have e3 := ha.ev y (by rw [ho]; simp [Op.operands])
            simp only [lop, ho, ht, hk1, hk2, e1, e2, e3, ha.S hns, h1, h2, h3]; rfl⟩
        · cases h
      · cases h
    · cases h
  -- buildSlice
  · rename_i t len ps
    have hns : takeB o = false := by simp [takeB, stillB, ho, hs]
    have hnc : calmB o = false := by simp [calmB, hns, ho]
    refine ⟨hns, ?_⟩
    split at h
    · rename_i ti ht
      split at h
      · rename_i hk
        simp only [hs] at h
        split at h
        · rename_i hl
          exact ⟨_, [], some _, h, (fun hc => by rw [hnc] at hc; cases hc), (fun _ h => by cases h), fun q' ha R' C' K' => by simp only [lop, ho, ht, hk, hs, hl, newObj, ha.S hns]; rfl⟩
        · cases h
      · cases h
    · cases h
  -- load
  · rename_i t x
    have hns : takeB o = false := by simp [takeB, stillB, ho, hs]
    refine ⟨hns, ?_⟩
    split at h
    · rename_i ti ht
      simp only [hs] at h
      obtain ⟨id, p, h, h1⟩ := asPtr_loc h
      obtain ⟨ty, xs, h, h2⟩ := objAt_loc h
      split at h
      · rename_i h9
        split at h
        · rename_i h3
          unfold ldRaw at h
          rcases ifB_some h with ⟨h4, h⟩ | ⟨_, h⟩
          · exact ⟨_, [], none, h, (fun _ => rfl), (fun _ h => by cases h), fun q' ha R' C' K' => by
              have e1 := ha.ev x (by rw [ho]; simp [Op.operands])
              simp only [lop, ho, ht, hs, e1, ha.S hns, h1, h2, h9, h3, ldRaw, h4, ifB]; rfl⟩
          · cases h
        · cases h
      rename_i h9
      split at h
      · rename_i h3 h4
        obtain ⟨ys, h, h5⟩ := asOwn_loc h
        have hnc : calmB o = false := by simp [calmB, hns, ho, h3]
        exact ⟨_, [], some _, h, (fun hc => by rw [hnc] at hc; cases hc), (fun _ h => by cases h), fun q' ha R' C' K' => by
          have e1 := ha.ev x (by rw [ho]; simp [Op.operands])
          simp only [lop, ho, ht, hs, e1, ha.S hns, h1, h2, h9, h3, h4, h5]; rfl⟩
      · cases h
      · rename_i h3
        obtain ⟨v, h, h5⟩ := ldO_loc h
        split at h
        · rename_i h6 h7
          obtain ⟨i', p', h, h8⟩ := asPtr_loc h
          exact ⟨_, [], none, h, (fun _ => rfl), (fun _ h => by cases h), fun q' ha R' C' K' => by
            have e1 := ha.ev x (by rw [ho]; simp [Op.operands])
            simp only [lop, ho, ht, hs, e1, ha.S hns, h1, h2, h9, h3, h5, h6, h7, h8]; rfl⟩
        · rename_i h6 h7
          obtain ⟨i', h, h8⟩ := asMap_loc h
          exact ⟨_, [], none, h, (fun _ => rfl), (fun _ h => by cases h), fun q' ha R' C' K' => by
            have e1 := ha.ev x (by rw [ho]; simp [Op.operands])
            simp only [lop, ho, ht, hs, e1, ha.S hns, h1, h2, h9, h3, h5, h6, h7, h8]; rfl⟩
        · cases h
        · rename_i h6
          exact ⟨_, [], none, h, (fun _ => rfl), (fun _ h => by cases h), fun q' ha R' C' K' => by
            have e1 := ha.ev x (by rw [ho]; simp [Op.operands])
            simp only [lop, ho, ht, hs, e1, ha.S hns, h1, h2, h9, h3, h5, h6]; rfl⟩
    · cases h
  -- store
  · rename_i t x y
    have hns : takeB o = false := by simp [takeB, stillB, ho]
    refine ⟨hns, ?_⟩
    split at h
    · rename_i hf
      unfold storeD at h
      split at h
      · rename_i ti d ht
        split at h
        · rename_i xs hA hE
          split at h
          · rename_i hb
            refine ⟨_, [(d, fun _ => .lbox (setFrom xs 0 (cellsOf (dup (Lm.ev q.E y)))))], none, h, (fun _ => rfl), (fun t ht => ?_), fun q' ha R' C' K' => ?_⟩
            · simp only [usedOf, ho, hf]
              simpa [us, tmpsOf] using ht
            · have e2 := ha.ev y (by rw [ho]; simp [Op.operands])
              have e1 : q'.E.getD d .any = .lbox xs := (ha.ev (.tmp d) (by rw [ho]; simp [Op.operands])).trans hE
              have e3 := ha.addr (.tmp d) (by rw [ho]; simp [Op.operands])
              have e4 : q'.A.getD d none = none := by
                simp only [Q.addr, hA, hE, e1] at e3
                cases hz : q'.A.getD d none with
                | none => rfl
                | some z =>
                  exfalso
                  have := ha.al d (by rw [ho]; simp [Op.operands])
                  rw [hz, hA] at this
                  cases this
              simp only [lop, ho, hf, storeD, ht, e4, e1, e2, hb]
              rfl
          · cases h
        · cases h
      · cases h
    rename_i hf
    have hnc : calmB o = false := by simp [calmB, hns, ho, hf]
    split at h
    · rename_i ti ht
      simp only [hs] at h
      obtain ⟨id, p, h, h1⟩ := asPtr_loc h
      obtain ⟨ty, xs, h, h2⟩ := objAt_loc h
      split at h
      · rename_i z ys h3 h4
        split at h
        · rename_i h5
          obtain ⟨zs, h, h6⟩ := stO_loc h
          refine ⟨_, dups (tmpsOf [y]), some (q.S.set id (ty zs)), ?_, (fun hc => by rw [hnc] at hc; cases hc), (fun t ht => by rw [us_dups] at ht; simp only [usedOf, ho, hf, h3]; exact ht), fun q' ha R' C' K' => by
            have e1 := ha.ev x (by rw [ho]; simp [Op.operands])
            have e2 := ha.ev y (by rw [ho]; simp [Op.operands])
            simp only [lop, ho, hf, ht, hs, e1, e2, ha.S hns, h1, h2, h3, h4, h5, h6, used_give]
            show K' .any none ⟨dupAt (tmpsOf [y]) q'.E, q'.A, _⟩ = K' .any none ⟨actAt (dups (tmpsOf [y])) q'.E, q'.A, _⟩
            rw [dupAt_act]; rfl⟩
          rw [used_give, give_giv0] at h
          exact h
        · cases h
      · cases h
      · rename_i h3
        split at h
        · rename_i h5
          obtain ⟨zs, h, h6⟩ := stO_loc h
          exact ⟨_, [], some _, h, (fun hc => by rw [hnc] at hc; cases hc), (fun _ h => by cases h), fun q' ha R' C' K' => by
            have e1 := ha.ev x (by rw [ho]; simp [Op.operands])
            have e2 := ha.ev y (by rw [ho]; simp [Op.operands])
            simp only [lop, ho, hf, ht, hs, e1, e2, ha.S hns, h1, h2, h3, h5, h6]; rfl⟩
        · cases h
    · cases h
  -- len of a map, append to an object
  · rename_i cl
    split at hs <;> try (cases hs; done)
    · rename_i hb
      have hfl : Nat.beq (flg o) 0 = false := by simpa using hs
      have hns : takeB o = false := by simp [takeB, stillB, ho, hb, hfl]
      refine ⟨hns, ?_⟩
      simp only [hb, hfl] at h
      unfold callM at h
      split at h
      · rename_i t x _ hat hargs
        have hx : x ∈ o.op.operands.toList := by rw [ho]; simp only [Op.operands, Call.operands, hb]; simp [hargs]
        split at h
        · rename_i ti ht
          split at h
          · rename_i kt hk1 hk2
            obtain ⟨id, h, h1⟩ := asMap_loc h
            obtain ⟨kvs, h, h2⟩ := mpAt_loc h
            exact ⟨_, [], none, h, (fun _ => rfl), (fun _ h => by cases h), fun q' ha R' C' K' => by
              simp only [lop, ho, hb, hfl, callM, hat, hargs, ht, hk1, hk2, ha.ev x hx, ha.S hns, h1, h2]; rfl⟩
          · rename_i hk1
            unfold lenO at h
            split at h
            · rename_i hv
              exact ⟨_, [], none, h, (fun _ => rfl), (fun _ h => by cases h), fun q' ha R' C' K' => by
                simp only [lop, ho, hb, hfl, callM, hat, hargs, ht, hk1, ha.ev x hx, hv, lenO]; rfl⟩
            · rename_i hv
              exact ⟨_, [], none, h, (fun _ => rfl), (fun _ h => by cases h), fun q' ha R' C' K' => by
                simp only [lop, ho, hb, hfl, callM, hat, hargs, ht, hk1, ha.ev x hx, hv, lenO]; rfl⟩
            · cases h
          · cases h
        · cases h
      · rename_i heq _ _; cases heq
      · cases h
    · rename_i hb
      have hfl : Nat.beq (flg o) 0 = false := by simpa using hs
      have hns : takeB o = false := by simp [takeB, stillB, ho, hb]
      have hnc : calmB o = false := by simp [calmB, hns, ho, hb]
      refine ⟨hns, ?_⟩
      simp only [hb, hfl] at h
      unfold callM at h
      split at h
      · rename_i heq _ _; cases heq
      · rename_i t t' x y _ hat hargs
        have hx : x ∈ o.op.operands.toList := by rw [ho]; simp only [Op.operands, Call.operands, hb]; simp [hargs]
        have hy : y ∈ o.op.operands.toList := by rw [ho]; simp only [Op.operands, Call.operands, hb]; simp [hargs]
        split at h
        · rename_i ti ti' ht ht'
          split at h
          · rename_i hk1
            obtain ⟨ys, h, h1⟩ := srcL_loc h
            have h2 := h
            obtain ⟨v, S', h, h3⟩ := appO_loc h
            exact ⟨_, [], some S', h, (fun hc => by rw [hnc] at hc; cases hc), (fun _ h => by cases h), fun q' ha R' C' K' => by
              simp only [lop, ho, hb, hfl, callM, hat, hargs, ht, ht', hk1, ha.ev x hx, ha.ev y hy, ha.S hns, h1, h3]; rfl⟩
          · cases h
        · cases h
      · cases h

theorem mild_loc (hT : ∀ t ti, T t = some ti → tiOf P t = some ti) (hC : ∀ f, HSound P f (C f)) {ops : Array Oper} {o : Oper} {q : Q} (hs : mildB o = true)
    {K : LV → Option (Nat × Nat) → Q → Option R} {r : R} (h : lop T C o q K = some r) :
    ∃ x U S, K x none (q.giv U S) = some r ∧ (calmB o = true → S = none) ∧ (∀ t, t ∈ us U → t ∈ usedOf o) ∧ ∀ q', Agr ops o q q' → OpOk P q' o x none (q'.giv U S) := by
  by_cases hst : storeB o = true
  · obtain ⟨hns, x, U, S, h, hc, hU, hl⟩ := store_loc (ops := ops) hst h
    refine ⟨x, U, S, h, hc, hU, fun q' ha => ?_⟩
    have e := hl q' ha (R' := LV × Option (Nat × Nat) × Q) (fun _ _ _ _ => none) fun x al q => some (x, al, q)
    obtain ⟨x', al, q'', h1, h2⟩ := lop_ok hT (fun f => noneHd f) o q' _ _ e
    simp only [Option.some.injEq, Prod.mk.injEq] at h1
    obtain ⟨rfl, rfl, rfl⟩ := h1
    exact h2
  unfold lop at h
  split at h <;> rename_i ho <;> simp only [mildB, storeB, ho] at hs hst <;> try (first | (cases hs; done) | exact absurd hs hst | exact absurd rfl hst)
  · rename_i x
    rw [used_give, give_giv0] at h
    refine ⟨_, dups (tmpsOf [x]), none, h, fun _ => rfl, fun t ht => by rw [us_dups] at ht; simp only [usedOf, ho]; exact ht, fun q' ha => ?_⟩
    have := ok_assign (P := P) (q := q') ho
    rw [used_give, give_giv0, ha.ev x (by rw [ho]; simp [Op.operands])] at this
    exact this
  · rename_i cl
    split at hs <;> try (cases hs; done)
    · rename_i hb
      have hns : takeB o = false := by simp [takeB, stillB, ho, hb]
      have hfl : Nat.beq (flg o) 0 = true := by simpa [hb] using hst
      have hnc : calmB o = false := by simp [calmB, hns, ho, hb]
      have huo : usedOf o = tmpsOf o.op.operands.toList := by simp only [usedOf, ho, hb]
      simp only [hb, hfl] at h
      have key : ∃ x0, x0 ∈ o.op.operands.toList ∧ ∃ v, K v none (q.used x0) = some r ∧ ∀ q', Agr ops o q q' → ∀ {R' : Type} (C' : Nat → Hd R') (K' : LV → Option (Nat × Nat) → Q → Option R'), lop T C' o q' K' = K' v none (q'.used x0) := by
        unfold callB at h
        split at h
        · rename_i heq _ _; cases heq
        · rename_i t t' x y _ hat hargs
          have hx : x ∈ o.op.operands.toList := by rw [ho]; simp only [Op.operands, Call.operands, hb]; simp [hargs]
          have hy : y ∈ o.op.operands.toList := by rw [ho]; simp only [Op.operands, Call.operands, hb]; simp [hargs]
          refine ⟨x, hx, ?_⟩
          split at h
          · rename_i ti ti' ht ht'
            split at h
            · rename_i h1
              split at h
              · rename_i z ys hv
                rcases ifB_some h with ⟨h4, h⟩ | ⟨_, h⟩
                · obtain ⟨xs, h, hxs⟩ := srcL_loc h
                  unfold app at h
                  rcases ifB_some h with ⟨h5, h⟩ | ⟨_, h⟩
                  · exact ⟨_, h, fun q' ha R' C' K' => by simp only [lop, ho, hb, hfl, callB, hat, hargs, ht, ht', h1, ha.ev x hx, ha.ev y hy, hv, h4, hxs, app, h5, ifB]⟩
                  · cases h
                · cases h
              · rename_i hv
                obtain ⟨xs, h, hxs⟩ := srcL_loc h
                unfold app at h
                rcases ifB_some h with ⟨h5, h⟩ | ⟨_, h⟩
                · exact ⟨_, h, fun q' ha R' C' K' => by simp only [lop, ho, hb, hfl, callB, hat, hargs, ht, ht', h1, ha.ev x hx, ha.ev y hy, hv, hxs, app, h5, ifB]⟩
                · cases h
              · cases h
            · cases h
          · cases h
        · rename_i heq _; cases heq
        · cases h
      obtain ⟨x0, hx0, v, h, hl⟩ := key
      rw [used_give, give_giv] at h
      refine ⟨v, _, some q.S, h, (fun h => by rw [hnc] at h; cases h), fun t ht => ?_, fun q' ha => ?_⟩
      · rw [huo]
        rw [us_dups] at ht
        cases x0 <;> simp only [tmpsOf, List.filterMap_cons, List.filterMap_nil, List.mem_cons, List.not_mem_nil, or_false] at ht
        subst ht
        exact List.mem_filterMap.2 ⟨_, hx0, rfl⟩
      · have e := hl q' ha (R' := LV × Option (Nat × Nat) × Q) (fun _ _ _ _ => none) fun x al q => some (x, al, q)
        obtain ⟨x, al, q'', h1, h2⟩ := lop_ok hT (fun f => noneHd f) o q' _ _ e
        simp only [Option.some.injEq, Prod.mk.injEq] at h1
        obtain ⟨rfl, rfl, rfl⟩ := h1
        rw [used_give, ha.S hns, give_giv] at h2
        exact h2
    · rename_i hb
      simp only [hb] at hst
      exact absurd hs hst
    · rename_i x hb
      have hns : takeB o = false := by simp [takeB, stillB, ho, hb]
      have hnc : calmB o = false := by simp [calmB, hns, ho, hb]
      have huo : usedOf o = tmpsOf o.op.operands.toList := by simp only [usedOf, ho, hb]
      simp only [hb] at h
      obtain ⟨f, cs, hx, h⟩ := asFn_some h
      obtain ⟨hen, v, S', hc, h⟩ := hC f _ _ _ _ h
      obtain ⟨callee, as, ts⟩ := cl
      simp only at hb
      subst hb
      have hops : ∀ y, y ∈ as.toList → y ∈ o.op.operands.toList := fun y hy => by rw [ho]; simp only [Op.operands, Call.operands]; simp [by simpa using hy]
      have hxo : x ∈ o.op.operands.toList := by rw [ho]; simp only [Op.operands, Call.operands]; simp
      simp only [takes_give] at h
      have hg : ∀ q0 : Q, { q0.give (tmpsOf as.toList) q0.S with S := S' } = q0.giv (dups (tmpsOf as.toList)) (some S') := fun q0 => by rw [give_giv]; rfl
      rw [hg] at h
      refine ⟨v, dups (tmpsOf as.toList), some S', h, (fun h => by rw [hnc] at h; cases h), fun t ht => ?_, fun q' ha => ?_⟩
      · rw [huo]
        rw [us_dups] at ht
        obtain ⟨y, hy, hy'⟩ := List.mem_filterMap.1 ht
        exact List.mem_filterMap.2 ⟨y, hops y hy, hy'⟩
      · have hc' : LCalls P f ((takes as.toList q').1 ++ cs) q'.S v S' := by
          rw [takes_congr as.toList q q' (fun y hy => ha.ev y (hops y hy)), ha.S hns]; exact hc
        have := ok_call (P := P) (q := q') ho ((ha.ev x hxo).trans hx) hen hc'
        rw [takes_give] at this
        rw [← hg]
        exact this
end
end Go.Lm
