/- Regions whose order is drawn: one order stands for all. -/
import Derived.Test.YtnapepffpbbkoaaGreatDoorLmFa
import Derived.Orders
namespace Go.Lm
section
variable {R : Type} {P : Program} {T : Nat → Option TI} {C : Nat → Hd R}

/-! ### What an operation's answer hangs on -/
theorem asInt_at {R' : Type} (k : IntKind) (n : Int) (K : Int → Option R') : asInt k (.int k n) K = K n := by simp [asInt, ifB]
theorem asSl_loc {sz : Nat} {v : LV} {K : List LV → Option R} {r : R} (h : asSl sz v K = some r) : ∃ xs, K xs = some r ∧ ∀ {R' : Type} (K' : List LV → Option R'), asSl sz v K' = K' xs := by
  cases v <;> simp only [asSl] at h <;> try (cases h; done)
  · exact ⟨_, h, fun K' => rfl⟩
  all_goals
    rcases ifB_some h with ⟨h1, h2⟩ | ⟨_, h2⟩
    · exact ⟨_, h2, fun K' => by simp only [asSl, h1, ifB]⟩
    · cases h2
theorem mat_loc {n : Nat} {v : LV} {K : List LV → Option R} {r : R} (h : mat n v K = some r) : ∃ xs, K xs = some r ∧ ∀ {R' : Type} (K' : List LV → Option R'), mat n v K' = K' xs := by
  cases v <;> simp only [mat] at h <;> try (cases h; done)
  rcases ifB_some h with ⟨h1, h2⟩ | ⟨_, h2⟩
  · exact ⟨_, h2, fun K' => by simp only [mat, h1, ifB]⟩
  · cases h2
theorem eqLs_loc : ∀ {ls : List LK} {xs ys : List LV} {K : Bool → Option R} {r : R}, eqLs ls xs ys K = some r → ∃ b, K b = some r ∧ ∀ {R' : Type} (K' : Bool → Option R'), eqLs ls xs ys K' = K' b := by
  intro ls
  induction ls with
  | nil =>
    intro xs ys K r h
    cases xs <;> cases ys <;> simp only [eqLs] at h <;> try (cases h; done)
    exact ⟨true, h, fun K' => rfl⟩
  | cons l ls ih =>
    intro xs ys K r h
    cases l <;> cases xs <;> cases ys <;> simp only [eqLs] at h <;> try (cases h; done)
    · obtain ⟨m, rfl, h1⟩ := asInt_some h
      obtain ⟨n, rfl, h2⟩ := asInt_some h1
      obtain ⟨b, h3, hb⟩ := ih h2
      exact ⟨_, h3, fun K' => by simp only [eqLs, asInt_at, hb]⟩
    · obtain ⟨m, rfl, h1⟩ := asBool_some h
      obtain ⟨n, rfl, h2⟩ := asBool_some h1
      obtain ⟨b, h3, hb⟩ := ih h2
      exact ⟨_, h3, fun K' => by simp only [eqLs, asBool, hb]⟩
    · obtain ⟨m, rfl, h1⟩ := asStr_some h
      obtain ⟨n, rfl, h2⟩ := asStr_some h1
      obtain ⟨b, h3, hb⟩ := ih h2
      exact ⟨_, h3, fun K' => by simp only [eqLs, asStr, hb]⟩
theorem boolBin_loc {op : BinOp} {a b : Bool} {K : LV → Option R} {r : R} (h : boolBin op a b K = some r) : ∃ v, K v = some r ∧ ∀ {R' : Type} (K' : LV → Option R'), boolBin op a b K' = K' v := by
  cases op <;> simp only [boolBin] at h <;> try (cases h; done)
  all_goals exact ⟨_, h, fun K' => rfl⟩
theorem isNil_loc {v : LV} {K : Bool → Option R} {r : R} (h : isNil v K = some r) : ∃ b, K b = some r ∧ ∀ {R' : Type} (K' : Bool → Option R'), isNil v K' = K' b := by
  unfold isNil at h
  split at h
  · exact ⟨_, h, fun K' => rfl⟩
  · exact ⟨_, h, fun K' => rfl⟩
  · exact ⟨_, h, fun K' => rfl⟩
  · exact ⟨_, h, fun K' => rfl⟩
  · cases h
theorem isNilP_loc {v : LV} {K : Bool → Option R} {r : R} (h : isNilP v K = some r) : ∃ b, K b = some r ∧ ∀ {R' : Type} (K' : Bool → Option R'), isNilP v K' = K' b := by
  unfold isNilP at h
  split at h
  · exact ⟨_, h, fun K' => rfl⟩
  · exact ⟨_, h, fun K' => rfl⟩
  · exact ⟨_, h, fun K' => rfl⟩
  · cases h
theorem binop_loc {t : TI} {op : BinOp} {x y : LV} {K : LV → Option R} {r : R} (h : binop t op x y K = some r) : ∃ v, K v = some r ∧ ∀ {R' : Type} (K' : LV → Option R'), binop t op x y K' = K' v := by
  unfold binop at h
  split at h
  · rename_i k hk
    split at h
    · rename_i hs
      obtain ⟨m, rfl, h0⟩ := asInt_some h
      obtain ⟨k', n, rfl, h2⟩ := asI_some h0
      rcases ifB_some h2 with ⟨_, h⟩ | ⟨h1, h⟩
      · cases h
      · exact ⟨_, h, fun K' => by simp only [binop, hk, hs, asInt_at, asI, h1, ifB]⟩
    · rename_i hs
      obtain ⟨m, rfl, h0⟩ := asInt_some h
      obtain ⟨n, rfl, h2⟩ := asInt_some h0
      cases op <;> simp only [intBin] at h2 <;> try (cases h2; done)
      all_goals first
        | exact ⟨_, h2, fun K' => by simp only [binop, hk, hs, asInt_at, intBin]⟩
        | (rcases ifB_some h2 with ⟨_, h⟩ | ⟨h1, h⟩
           · cases h
           · exact ⟨_, h, fun K' => by simp only [binop, hk, hs, asInt_at, intBin, h1, ifB]⟩)
  · rename_i hk
    obtain ⟨m, rfl, h0⟩ := asStr_some h
    obtain ⟨n, rfl, h2⟩ := asStr_some h0
    cases op <;> simp only [strBin] at h2 <;> try (cases h2; done)
    all_goals first
      | exact ⟨_, h2, fun K' => by simp only [binop, hk, asStr, strBin]⟩
      | (unfold catStr at h2
         rcases ifB_some h2 with ⟨h1, h⟩ | ⟨_, h⟩
         · exact ⟨_, h, fun K' => by simp only [binop, hk, asStr, strBin, catStr, h1, ifB]⟩
         · cases h)
  · rename_i hk
    obtain ⟨m, rfl, h0⟩ := asBool_some h
    obtain ⟨n, rfl, h2⟩ := asBool_some h0
    obtain ⟨v, h, hv⟩ := boolBin_loc h2
    exact ⟨v, h, fun K' => by simp only [binop, hk, asBool, hv]⟩
  · rename_i hk
    split at h
    · rename_i ls hl
      obtain ⟨xs, h, h1⟩ := mat_loc h
      obtain ⟨ys, h, h2⟩ := mat_loc h
      obtain ⟨b, h, h3⟩ := eqLs_loc h
      obtain ⟨v, h, h4⟩ := boolBin_loc h
      exact ⟨v, h, fun K' => by simp only [binop, hk, hl, h1, h2, h3, h4]⟩
    · cases h
  · rename_i hk
    split at h
    · obtain ⟨b, h, h3⟩ := isNil_loc h
      obtain ⟨v, h, h4⟩ := boolBin_loc h
      exact ⟨v, h, fun K' => by simp only [binop, hk, h3, h4]⟩
    · cases h
  · rename_i hk
    split at h
    · obtain ⟨b, h, h3⟩ := isNilP_loc h
      obtain ⟨v, h, h4⟩ := boolBin_loc h
      exact ⟨v, h, fun K' => by simp only [binop, hk, h3, h4]⟩
    · cases h
  · cases h
theorem dec_loc {l : LK} {v : LV} {K : LV → Option R} {r : R} (h : dec l v K = some r) : ∃ x, K x = some r ∧ ∀ {R' : Type} (K' : LV → Option R'), dec l v K' = K' x := by
  cases l <;> simp only [dec] at h
  · obtain ⟨m, rfl, h1⟩ := asInt_some h; exact ⟨_, h1, fun K' => by simp only [dec, asInt_at]⟩
  · obtain ⟨m, rfl, h1⟩ := asBool_some h; exact ⟨_, h1, fun K' => by simp only [dec, asBool]⟩
  · obtain ⟨m, rfl, h1⟩ := asStr_some h; exact ⟨_, h1, fun K' => by simp only [dec, asStr]⟩
  · obtain ⟨xs, h, hx⟩ := asSl_loc h; exact ⟨_, h, fun K' => by simp only [dec, hx]⟩
  · exact ⟨_, h, fun K' => rfl⟩
  · exact ⟨_, h, fun K' => rfl⟩
  · exact ⟨_, h, fun K' => rfl⟩
  · exact ⟨_, h, fun K' => rfl⟩
theorem decL_loc : ∀ {ls : List LK} {xs : List LV} {i : Nat} {K : List LV → Option R} {r : R}, decL ls xs i K = some r → ∃ x, K x = some r ∧ ∀ {R' : Type} (K' : List LV → Option R'), decL ls xs i K' = K' x := by
  intro ls
  induction ls with
  | nil => intro xs i K r h; exact ⟨_, h, fun K' => rfl⟩
  | cons l ls ih =>
    intro xs i K r h
    simp only [decL] at h
    obtain ⟨x, h, hx⟩ := dec_loc h
    obtain ⟨y, h, hy⟩ := ih h
    exact ⟨_, h, fun K' => by simp only [decL, hx, hy]⟩
theorem decT_loc {t : TI} {v : LV} {K : LV → Option R} {r : R} (h : decT t v K = some r) : ∃ x, K x = some r ∧ ∀ {R' : Type} (K' : LV → Option R'), decT t v K' = K' x := by
  unfold decT at h
  split at h
  · rename_i hk
    obtain ⟨xs, h, hx⟩ := mat_loc h
    obtain ⟨y, h, hy⟩ := decL_loc h
    exact ⟨_, h, fun K' => by simp only [decT, hk, hx, hy]⟩
  · rename_i hk
    obtain ⟨xs, h, hx⟩ := mat_loc h
    obtain ⟨y, h, hy⟩ := decL_loc h
    exact ⟨_, h, fun K' => by simp only [decT, hk, hx, hy]⟩
  · rename_i h1 h2
    split at h
    · rename_i l hl
      obtain ⟨x, h, hx⟩ := dec_loc h
      refine ⟨x, h, fun K' => ?_⟩
      unfold decT
      split
      · exact absurd (by assumption) h1
      · exact absurd (by assumption) h2
      · simp only [hl, hx]
    · cases h

/-- What an operation looks at is the same in both states. -/
structure Agr (ops : Array Oper) (o : Oper) (q q' : Q) : Prop where
  ev : ∀ x, x ∈ o.op.operands.toList → ev q'.E x = ev q.E x
  addr : ∀ x, x ∈ o.op.operands.toList → q'.addr x = q.addr x
  box : ∀ x, x ∈ o.op.operands.toList → ∀ d p, q.addr x = some (d, p) → boxAt q'.E d = boxAt q.E d
  gd : ∀ j w, o.guard = some (j, w) → ∀ d, (ops[j]?).bind (·.dst) = some d → q'.E.getD d .any = q.E.getD d .any
  S : takeB o = false → q'.S = q.S
theorem intOr_loc {E E' : List LV} {x : Option Operand} {d : Int} {K : Int → Option R} {r : R} (he : ∀ y, x = some y → ev E' y = ev E y) (h : intOr E x d K = some r) : ∃ n, K n = some r ∧ ∀ {R' : Type} (K' : Int → Option R'), intOr E' x d K' = K' n := by
  cases x with
  | none => exact ⟨d, h, fun K' => rfl⟩
  | some x =>
    simp only [intOr] at h
    obtain ⟨k, n, hn, h1⟩ := asI_some h
    exact ⟨n, h1, fun K' => by simp only [intOr, he x rfl, hn, asI]⟩
theorem still_loc {ops : Array Oper} {o : Oper} {q q' : Q} (hs : stillB o = true) (ha : Agr ops o q q') {K : LV → Option (Nat × Nat) → Q → Option R} {r : R} (h : lop T C o q K = some r) :
    ∃ x al, K x al q = some r ∧ ∀ {R' : Type} (C' : Nat → Hd R') (K' : LV → Option (Nat × Nat) → Q → Option R'), lop T C' o q' K' = K' x al q' := by
  have hev := ha.ev
  have had := ha.addr
  have hbx := ha.box
  unfold lop at h
  split at h <;> rename_i ho <;> simp only [stillB, ho] at hs <;> try (cases hs; done)
  -- move
  · rename_i x
    have e1 := hev x (by rw [ho]; simp [Op.operands])
    have e2 := had x (by rw [ho]; simp [Op.operands])
    exact ⟨_, _, h, fun C' K' => by simp only [lop, ho, e1, e2]⟩
  -- pick
  · rename_i cc a b
    have e1 := hev cc (by rw [ho]; simp [Op.operands])
    have e2 := hev a (by rw [ho]; simp [Op.operands])
    have e3 := hev b (by rw [ho]; simp [Op.operands])
    obtain ⟨t, ht, h1⟩ := asBool_some h
    rcases ifB_some h1 with ⟨rfl, h2⟩ | ⟨rfl, h2⟩
    · exact ⟨_, _, h2, fun C' K' => by simp only [lop, ho, e1, e2, ht, asBool, ifB]⟩
    · exact ⟨_, _, h2, fun C' K' => by simp only [lop, ho, e1, e3, ht, asBool, ifB]⟩
  -- makeFunc
  · rename_i f first cs
    have e1 : (cs.toList.map fun x => dup (Lm.ev q'.E x)) = cs.toList.map fun x => dup (Lm.ev q.E x) := List.map_congr_left fun x hx => by
      rw [hev x (by rw [ho]; simp only [Op.operands]; simp; exact .inr (by simpa using hx))]
    split at h
    · rename_i hf
      exact ⟨_, _, h, fun C' K' => by simp only [lop, ho, hf, e1]⟩
    · cases h
  -- nilCheck
  · rename_i x
    have e1 := hev x (by rw [ho]; simp [Op.operands])
    have e2 := had x (by rw [ho]; simp [Op.operands])
    split at h
    · rename_i p hp
      exact ⟨_, _, h, fun C' K' => by simp only [lop, ho, e2, hp]⟩
    · rename_i hp
      split at h
      · rename_i id p hx
        exact ⟨_, _, h, fun C' K' => by simp only [lop, ho, e2, hp, e1, hx]⟩
      · rename_i v n p hx
        exact ⟨_, _, h, fun C' K' => by simp only [lop, ho, e2, hp, e1, hx]⟩
      · cases h
  -- build
  · rename_i t ps
    have e1 : (ps.toList.map fun p => dup (Lm.ev q'.E p.2)) = ps.toList.map fun p => dup (Lm.ev q.E p.2) := List.map_congr_left fun p hp => by
      rw [hev p.2 (by rw [ho]; simp only [Op.operands]; exact List.mem_map.2 ⟨p, hp, rfl⟩)]
    split at h
    · rename_i ti ht
      split at h
      · rename_i hk
        split at h
        · rename_i z hz
          exact ⟨_, _, h, fun C' K' => by simp only [lop, ho, ht, hk, e1, hz]⟩
        · cases h
      · cases h
    · cases h
  -- buildSlice
  · rename_i t len ps
    have e1 : (ps.toList.map fun p => dup (Lm.ev q'.E p.2)) = ps.toList.map fun p => dup (Lm.ev q.E p.2) := List.map_congr_left fun p hp => by
      rw [hev p.2 (by rw [ho]; simp only [Op.operands]; exact List.mem_map.2 ⟨p, hp, rfl⟩)]
    have e2 : ∀ (f : LV → Bool), ps.toList.all (fun p => f (dup (Lm.ev q'.E p.2))) = ps.toList.all fun p => f (dup (Lm.ev q.E p.2)) := fun f => by
      have h1 : ∀ (E : List LV), ps.toList.all (fun p => f (dup (Lm.ev E p.2))) = (ps.toList.map fun p => dup (Lm.ev E p.2)).all f := fun E => by rw [List.all_map]; rfl
      rw [h1, h1, e1]
    have e3 := fun n => e2 fun v => Nat.beq (cellsOf v).length n && (cellsOf v).all one
    split at h
    · rename_i ti ht
      split at h
      · rename_i hk
        split at h
        · rename_i hz
          exact ⟨_, _, h, fun C' K' => by simp only [lop, ho, ht, hk, e1, e3, hz]⟩
        · cases h
      · cases h
    · cases h
  -- load
  · rename_i t x
    have e1 := hev x (by rw [ho]; simp [Op.operands])
    have e2 := had x (by rw [ho]; simp [Op.operands])
    have e3 := hbx x (by rw [ho]; simp [Op.operands])
    split at h
    · rename_i ti ht
      simp only [hs] at h
      split at h
      · rename_i d p hd
        have e3 := e3 d p hd
        split at h
        · rename_i hz
          exact ⟨_, _, h, fun C' K' => by simp only [lop, ho, ht, hs, e2, hd, e3, hz]⟩
        · cases h
      · rename_i hd
        split at h
        · rename_i v n p hv
          split at h
          · rename_i hk
            split at h
            · rename_i hz
              obtain ⟨x, h, hx⟩ := decT_loc h
              exact ⟨_, _, h, fun C' K' => by simp only [lop, ho, ht, hs, e2, hd, e1, hv, hk, hz, hx]⟩
            · cases h
          · rename_i hk
            split at h
            · rename_i hz
              obtain ⟨x, h, hx⟩ := decT_loc h
              exact ⟨_, _, h, fun C' K' => by simp only [lop, ho, ht, hs, e2, hd, e1, hv, hk, hz, hx]⟩
            · cases h
        · cases h
    · cases h
  -- binOp
  · rename_i op t x y yt
    have e1 := hev x (by rw [ho]; simp [Op.operands])
    have e2 := hev y (by rw [ho]; simp [Op.operands])
    split at h
    · rename_i ti ht
      obtain ⟨v, h, hv⟩ := binop_loc h
      exact ⟨_, _, h, fun C' K' => by simp only [lop, ho, ht, e1, e2, hv]⟩
    · cases h
  -- unOp
  · rename_i op t x
    have e1 := hev x (by rw [ho]; simp [Op.operands])
    split at h
    · obtain ⟨b, hb, h⟩ := asBool_some h
      exact ⟨_, _, h, fun C' K' => by simp only [lop, ho, e1, hb, asBool]⟩
    · cases h
  -- convert
  · rename_i s t x
    have e1 := hev x (by rw [ho]; simp [Op.operands])
    split at h
    · rename_i si ti hsi hti
      split at h
      · rename_i h1 h2
        obtain ⟨n, hn, h⟩ := asInt_some h
        exact ⟨_, _, h, fun C' K' => by simp only [lop, ho, hsi, hti, h1, h2, e1, hn, asInt_at]⟩
      · rename_i h1 h2
        obtain ⟨n, hn, h⟩ := asStr_some h
        exact ⟨_, _, h, fun C' K' => by simp only [lop, ho, hsi, hti, h1, h2, e1, hn, asStr]⟩
      · rename_i h1 h2
        split at h
        · rename_i h3
          obtain ⟨xs, h, hx⟩ := asSl_loc h
          unfold strOf at h
          split at h
          · rename_i l hl
            exact ⟨_, _, h, fun C' K' => by simp only [lop, ho, hsi, hti, h1, h2, h3, e1, hx, strOf, hl]⟩
          · cases h
        · cases h
      · rename_i h1 h2
        split at h
        · rename_i h3
          obtain ⟨n, hn, h⟩ := asStr_some h
          rcases ifB_some h with ⟨h4, h⟩ | ⟨_, h⟩
          · exact ⟨_, _, h, fun C' K' => by simp only [lop, ho, hsi, hti, h1, h2, h3, e1, hn, asStr, h4, ifB]⟩
          · cases h
        · cases h
      · cases h
    · cases h
  -- slice
  · rename_i t x lo hi mx
    have e1 := hev x (by rw [ho]; simp [Op.operands])
    have e2 : ∀ y, lo = some y → Lm.ev q'.E y = Lm.ev q.E y := fun y hy => hev y (by rw [ho, hy]; simp [Op.operands])
    have e3 : ∀ y, hi = some y → Lm.ev q'.E y = Lm.ev q.E y := fun y hy => hev y (by rw [ho, hy]; simp [Op.operands])
    split at h
    · rename_i ti ht
      split at h
      · rename_i hk
        obtain ⟨n, hn, h⟩ := asStr_some h
        obtain ⟨l, h, h2⟩ := intOr_loc e2 h
        obtain ⟨u, h, h3⟩ := intOr_loc e3 h
        unfold slStr at h
        rcases ifB_some h with ⟨h4, h⟩ | ⟨_, h⟩
        · exact ⟨_, _, h, fun C' K' => by simp only [lop, ho, ht, hk, e1, hn, asStr, h2, h3, slStr, h4, ifB]⟩
        · cases h
      · rename_i hk
        obtain ⟨xs, h, hx⟩ := asSl_loc h
        obtain ⟨l, h, h2⟩ := intOr_loc e2 h
        obtain ⟨u, h, h3⟩ := intOr_loc e3 h
        unfold slL at h
        rcases ifB_some h with ⟨h4, h⟩ | ⟨_, h⟩
        · exact ⟨_, _, h, fun C' K' => by simp only [lop, ho, ht, hk, e1, hx, h2, h3, slL, h4, ifB]⟩
        · cases h
      · cases h
    · cases h
  -- fieldAddr
  · rename_i t x i
    have e1 := hev x (by rw [ho]; simp [Op.operands])
    have e2 := had x (by rw [ho]; simp [Op.operands])
    split at h
    · rename_i ti ht
      split at h
      · rename_i f1 f2 f3 hf
        split at h
        · rename_i d p hd
          exact ⟨_, _, h, fun C' K' => by simp only [lop, ho, ht, hf, e2, hd]⟩
        · rename_i hd
          split at h
          · rename_i v n p hv
            split at h
            · rename_i hz
              exact ⟨_, _, h, fun C' K' => by simp only [lop, ho, ht, hf, e2, hd, e1, hv, hz]⟩
            · cases h
          · rename_i id p hv
            exact ⟨_, _, h, fun C' K' => by simp only [lop, ho, ht, hf, e2, hd, e1, hv]⟩
          · cases h
      · cases h
    · cases h
  -- field
  · rename_i t x i
    have e1 := hev x (by rw [ho]; simp [Op.operands])
    split at h
    · rename_i ti ht
      split at h
      · rename_i f1 f2 f3 hf
        split at h
        · rename_i fi xs hfi hx
          split at h
          · rename_i hz
            exact ⟨_, _, h, fun C' K' => by simp only [lop, ho, ht, hf, hfi, e1, hx, hz]⟩
          · cases h
        · cases h
      · cases h
    · cases h
  -- indexAddr
  · rename_i t x i
    have e1 := hev x (by rw [ho]; simp [Op.operands])
    have e2 := hev i (by rw [ho]; simp [Op.operands])
    split at h
    · rename_i ti ht
      split at h
      · rename_i hk
        rcases oslOr_some h with ⟨id, p, z, n, hx, h⟩ | ⟨ho2, h⟩
        · rcases ifB_some h with ⟨h5, h⟩ | ⟨_, h⟩
          · obtain ⟨k, m, hm, h⟩ := asI_some h
            unfold idxN at h
            rcases ifB_some h with ⟨h4, h⟩ | ⟨_, h⟩
            · exact ⟨_, _, h, fun C' K' => by simp only [lop, ho, ht, hk, e1, e2, hx, oslOr, h5, hm, asI, idxN, h4, ifB]⟩
            · cases h
          · cases h
        obtain ⟨xs, h, hx⟩ := asSl_loc h
        obtain ⟨k, n, hn, h⟩ := asI_some h
        unfold idxL at h
        rcases ifB_some h with ⟨h4, h⟩ | ⟨_, h⟩
        · exact ⟨_, _, h, fun C' K' => by simp only [lop, ho, ht, hk, e1, e2, ho2, hx, hn, asI, idxL, h4, ifB]⟩
        · cases h
      · cases h
    · cases h
  -- index
  · rename_i t x i
    have e1 := hev x (by rw [ho]; simp [Op.operands])
    have e2 := hev i (by rw [ho]; simp [Op.operands])
    split at h
    · rename_i ti ht
      split at h
      · rename_i hk
        obtain ⟨s, hs, h⟩ := asStr_some h
        obtain ⟨k, n, hn, h⟩ := asI_some h
        unfold idxStr at h
        rcases ifB_some h with ⟨h4, h⟩ | ⟨_, h⟩
        · exact ⟨_, _, h, fun C' K' => by simp only [lop, ho, ht, hk, e1, e2, hs, asStr, hn, asI, idxStr, h4, ifB]⟩
        · cases h
      · cases h
    · cases h
  -- len
  · rename_i cl
    split at hs <;> try (cases hs; done)
    rename_i hb
    have hfl := hs
    simp only [hb, hs] at h
    unfold callB at h
    split at h
    · rename_i t x _ hat hargs
      have e1 := hev x (by rw [ho]; simp only [Op.operands, Call.operands, hb]; simp [hargs])
      split at h
      · rename_i ti ht
        split at h
        · rename_i hk
          obtain ⟨s, hs, h⟩ := asStr_some h
          exact ⟨_, _, h, fun C' K' => by simp only [lop, ho, hb, hfl, callB, hat, hargs, ht, hk, e1, hs, asStr]⟩
        · rename_i hk
          rcases oslOr_some h with ⟨id, p, z, n, hx, h⟩ | ⟨ho2, h⟩
          · exact ⟨_, _, h, fun C' K' => by simp only [lop, ho, hb, hfl, callB, hat, hargs, ht, hk, e1, hx, oslOr]⟩
          obtain ⟨xs, h, hx⟩ := asSl_loc h
          exact ⟨_, _, h, fun C' K' => by simp only [lop, ho, hb, hfl, callB, hat, hargs, ht, hk, e1, ho2, hx]⟩
        · cases h
      · cases h
    · rename_i heq _ _; cases heq
    · cases h
  · cases h
end
end Go.Lm
