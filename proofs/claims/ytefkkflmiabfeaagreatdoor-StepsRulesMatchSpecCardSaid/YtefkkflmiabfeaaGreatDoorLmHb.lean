/- Handlers by hand that turn an object of the store: builders of strings. -/
import Derived.Test.YtefkkflmiabfeaaGreatDoorLmP
set_option linter.unusedVariables false
set_option linter.unusedSimpArgs false
namespace Go.Lm
section
variable {R : Type} {P : Program}

/-- The state of a call, as the interpreter sees it. -/
theorem LCalls.enter {args S : List LV} {c : Cx} {vs : List Value} {o : Ow} (hl : vs.length = args.length) (hr : ∀ i, i < args.length → Rep c (args.getD i .any) (vs.getD i undef) (o (.arg i))) (hsto : Sto c S o) (hsep : Sep o) (hlt : ∀ k g, g ∈ o k → g < c.w.heap.size) :
    RelO ⟨c, fun g => ∃ k, g ∈ o k⟩ ⟨[], [], S⟩ { tmps := #[], defers := [] } c args vs (fun k => match k with | .env _ => [] | k => o k) := by
  refine ⟨rfl, Nat.le_refl _, fun t ht => absurd ht (by simp), fun t d p h => by simp at h, ⟨hsto.n, hsto.r, hsto.bd⟩, hr, hl, ⟨fun k => ?_, fun k k' g hne hg hg' => ?_⟩, Ext.refl _ _, fun k g hg => ?_, rfl⟩
  · cases k <;> first | exact List.nodup_nil | exact hsep.nd _
  · cases k <;> cases k' <;> first | (cases hg; done) | (cases hg'; done) | exact hsep.dj _ _ g hne hg hg'
  · cases k with
    | env t => cases hg
    | sto id => exact ⟨hlt _ g hg, .inl ⟨_, hg⟩⟩
    | arg i => exact ⟨hlt _ g hg, .inl ⟨_, hg⟩⟩
theorem rep_ptr {c : Cx} {id p : Nat} {v : Value} {O : List Nat} (h : Rep c (.ptr id p) v O) : id < c.n ∧ v = .pointer (some ⟨c.ι id, p, none⟩) ∧ O = [] := by
  cases h with
  | ptr _ _ h => exact ⟨h, rfl, rfl⟩
theorem hand_okS {f : FuncId} (hen : Enters P f) {ps rs : Mk} {g : List LV → ps.ty → Option (rs.ty × List LV)} {fn : ps.ty → List LV → (rs.ty → List LV → Option R) → Option R}
    (hf : ∀ S x K, fn x S K = match g S x with | some r => K r.1 r.2 | none => none) (hv : ∀ x S r S', g S x = some (r, S') → LCalls P f (ps.enc x) S (resE rs r) S') :
    HSound P f (hT (R := R) ps fun x S K => fn x S fun r S => K (resE rs r) S) := by
  intro args S K r h
  unfold hT at h
  split at h
  · split at h
    · rename_i x hx
      simp only [hf] at h
      split at h
      · rename_i y hy
        refine ⟨hen, _, _, ?_, h⟩
        have := hv x S y.1 y.2 hy
        rw [← Mk.dec_enc ps _ x hx] at this
        exact this.co
      · cases h
    · cases h
  · cases h
/-- A list of bytes. -/
def strB : List LV → Option (List UInt8)
  | [] => some []
  | .int .u8 n :: xs => (match decide (n = ((UInt8.ofNat n.toNat).toNat : Int)) with
    | true => (match strB xs with | some l => some (UInt8.ofNat n.toNat :: l) | none => none)
    | false => none)
  | _ :: _ => none
theorem strB_some : ∀ (xs : List LV) (l : List UInt8), strB xs = some l → xs = l.map fun b => LV.int .u8 (b.toNat : Int)
  | [], l, h => by cases h; rfl
  | x :: xs, l, h => by
    unfold strB at h
    split at h
    · rename_i h0; cases h0
    · rename_i n xs' h0
      cases h0
      split at h
      · rename_i hn
        split at h
        · rename_i l' hl
          cases h
          rw [strB_some _ _ hl, List.map_cons, ← of_decide_eq_true hn]
        · cases h
      · cases h
    · cases h
/-- A call that reads the bytes of its argument's second cell, and freezes them. -/
theorem LCalls.bytes {f : FuncId} {S : List LV} {id ty e : Nat} {x0 : LV} {xs : List LV} {l : List UInt8} (hS : S.getD id .any = .obj ty [x0, .own e 1 xs]) (hl : strB xs = some l) (h0 : l ≠ [])
    (h : ∀ (b g cap : Nat) (cur : Array Value) (p : Value) (w : World), w.heap[b]? = some (.cells #[p, .slice (some ⟨g, 0, none⟩) l.length cap] ty (0, 0)) → w.heap[g]? = some (.cells cur e (0, 0)) → l.length ≤ cap → cap ≤ 9223372036854775807 → cur.size = cap →
      (∀ j x, l[j]? = some x → w.cell? ⟨g, j, none⟩ = some (.int .u8 x.toNat)) → Calls P f #[.pointer (some ⟨b, 0, none⟩)] w fun en w' => en = .returned (.string ⟨l.toArray⟩) ∧ w' = w.drew.freeze ⟨g, 0, none⟩ l.length) :
    LCalls P f [.ptr id 0] S (.str ⟨l.toArray⟩) (S.set id .any) := by
  intro c vs o hvl hvr hsto hsep hlt
  have hr := LCalls.enter hvl hvr hsto hsep hlt
  have r0 := hvr 0 (by simp)
  simp only [List.getD_cons_zero] at r0
  obtain ⟨hid, hv, -⟩ := rep_ptr r0
  obtain rfl : vs = [.pointer (some ⟨c.ι id, 0, none⟩)] := by
    cases vs with
    | nil => simp at hvl
    | cons v vs =>
      cases vs with
      | nil => simp only [List.getD_cons_zero] at hv; rw [hv]
      | cons => simp at hvl
  obtain ⟨hidS, cur, os, hO, _, hh, hI, ho1, hrep, hs⟩ := hr.obj (.inl rfl) hS
  replace hs := hs rfl
  obtain rfl := strB_some _ _ hl
  have hown := hrep 1 (by simp)
  have e1 : ([x0, LV.own e 1 (l.map fun b => LV.int .u8 (b.toNat : Int))] : List LV).getD 1 .any = .own e 1 (l.map fun b => LV.int .u8 (b.toNat : Int)) := rfl
  rw [e1] at hown
  have hlen : 0 < l.length := by
    cases l with
    | nil => exact absurd rfl h0
    | cons => simp
  generalize hz : cur.getD 1 undef = z at hown
  generalize hO1 : os 1 = O1 at hown
  generalize hxs : (l.map fun b => LV.int .u8 (b.toNat : Int)) = xs at hown
  cases hown with
  | own0 =>
    have : l.length = 0 := by rw [← List.length_map (as := l) (f := fun b => LV.int .u8 (b.toNat : Int)), hxs]; rfl
    omega
  | own _ _ g cap _ cur2 hcap hmax hh2 hs2 hI2 h12 hr2 =>
    have hxl : xs.length = l.length := by rw [← hxs, List.length_map]
    rw [hxl] at hz hcap
    have hcells : ∀ j x, l[j]? = some x → c.w.cell? ⟨g, j, none⟩ = some (.int .u8 x.toNat) := fun j x hj => by
      have hj' : j < l.length := (List.getElem?_eq_some_iff.1 hj).1
      have h3 := hr2 j (by omega)
      rw [Nat.div_one, Nat.mod_one] at h3
      have h4 : xs.getD j .any = .int .u8 (x.toNat : Int) := by
        rw [← hxs]; simp [List.getD_eq_getElem?_getD, hj]
      rw [h4] at h3
      have h5 := rep_int (h3 : Rep c (.int .u8 (x.toNat : Int)) _ _)
      have h6 : j < cur2.size := by omega
      simp only [World.cell?, hh2]
      simp [Array.getD_eq_getD_getElem?, h6] at h5
      simp [h6, h5]
    have hcur : cur = #[cur.getD 0 undef, .slice (some ⟨g, 0, none⟩) l.length cap] := by
      have hs' : cur.size = 2 := hs
      apply Array.ext
      · simp [hs']
      · intro j h1 h2
        simp at h2
        rcases j with _ | _ | j
        · simp [Array.getD_eq_getD_getElem?, h1]
        · simp [Array.getD_eq_getD_getElem?, h1] at hz; simpa using hz
        · omega
    rw [hcur] at hh
    refine (h (c.ι id) g cap cur2 _ c.w hh hh2 hcap hmax (by omega) hcells).mono ?_
    rintro en w' ⟨he, rfl⟩
    have hgo : g ∈ o (.sto id) := by
      have hO' : o (.sto id) = c.ι id :: flatO [x0, LV.own e 1 (l.map fun b => LV.int .u8 (b.toNat : Int))].length os := hO
      rw [hO']
      refine List.mem_cons_of_mem _ (flatO_mem.2 ⟨1, by simp, ?_⟩)
      rw [hO1]; simp
    have hn0 : l.length ≠ 0 := by omega
    have hblk : ∀ b, b ≠ g → (c.w.drew.freeze ⟨g, 0, none⟩ l.length).heap[b]? = c.w.heap[b]? := fun b hb => by
      unfold World.freeze
      rw [if_neg hn0]
      show (c.w.heap.modify g _)[b]? = _
      rw [Array.getElem?_modify, if_neg (Ne.symm hb)]
    have hsz : (c.w.drew.freeze ⟨g, 0, none⟩ l.length).heap.size = c.w.heap.size := by
      unfold World.freeze
      rw [if_neg hn0]
      show (c.w.heap.modify g _).size = _
      simp
    have hfz : (c.w.drew.freeze ⟨g, 0, none⟩ l.length).heap[g]? = some (.cells cur2 e (0, 0 + l.length)) := by
      unfold World.freeze
      rw [if_neg hn0]
      show (c.w.heap.modify g _)[g]? = _
      rw [Array.getElem?_modify, if_pos rfl, hh2]
      simp
    have hcell : ∀ b p, (c.w.drew.freeze ⟨g, 0, none⟩ l.length).cell? ⟨b, p, none⟩ = c.w.cell? ⟨b, p, none⟩ := fun b p => by
      by_cases hb : b = g
      · subst hb
        simp only [World.cell?, hfz, hh2]
      · exact World.cell?_of_block (w := c.w) (hblk b hb)
    let c' : Cx := { c with w := c.w.drew.freeze ⟨g, 0, none⟩ l.length }
    have hext : Ext c c' (fun b => b = g) := ⟨Nat.le_refl _, fun _ _ => rfl, fun _ _ h => h, fun b p _ => hcell b p, by rw [hsz]; exact Nat.le_refl _, fun b _ hb => hblk b hb, fun _ _ _ _ h => h, (fun b _ _ _ hb h => by subst hb; rw [hh2] at h; cases h; exact ⟨_, _, hfz, rfl⟩),
      by show (World.freeze _ _ _).os = _; unfold World.freeze; rw [if_neg hn0]; rfl, by show (World.freeze _ _ _).tape = _; unfold World.freeze; rw [if_neg hn0]; rfl, by show (World.freeze _ _ _).output = _; unfold World.freeze; rw [if_neg hn0]; rfl⟩
    have hext' : Ext c c' (fun b => ∃ k, b ∈ o k) := hext.mono (fun b hb => ⟨_, hb ▸ hgo⟩)
    refine ⟨c', _, fun k => match k with | .sto id' => if id' = id then [] else o (.sto id') | _ => [], he, rfl, hext', .str _, ⟨by simpa using hsto.n, fun id' hid' => ?_, fun b p hb => by rw [hsz]; exact hsto.bd b p hb⟩, ⟨fun k => ?_, fun k k' g' hne hg hg' => ?_⟩, fun k g' hg => ?_, fun t => rfl⟩
    · have hid'' : id' < S.length := by simpa using hid'
      by_cases e1 : id' = id
      · subst e1
        rw [getD_set_self _ _ _ hid'']
        show Rep c' .any _ (if id' = id' then [] else o (.sto id'))
        rw [if_pos rfl]
        exact .any _
      · rw [getD_set_other _ _ e1]
        show Rep c' _ _ (if id' = id then [] else o (.sto id'))
        rw [if_neg e1]
        exact (hsto.r id' hid'').ext hext (fun g' hg' hm => hsep.dj _ _ g' (fun e => e1 (by cases e; rfl)) hg' (hm ▸ hgo))
    · cases k with
      | env t => exact List.nodup_nil
      | arg i => exact List.nodup_nil
      | sto id' => simp only; split; exact List.nodup_nil; exact hsep.nd _
    · cases k with
      | env t => cases hg
      | arg i => cases hg
      | sto i1 =>
        cases k' with
        | env t => cases hg'
        | arg i => cases hg'
        | sto i2 =>
          simp only at hg hg'
          split at hg
          · cases hg
          · split at hg'
            · cases hg'
            · exact hsep.dj _ _ g' hne hg hg'
    · cases k with
      | env t => cases hg
      | arg i => cases hg
      | sto i1 =>
        simp only at hg
        split at hg
        · cases hg
        · exact ⟨by rw [hsz]; exact hlt _ _ hg, .inl ⟨_, hg⟩⟩

/-- A variable of the program's own is among what the call starts with. -/
def HasGlob (S : List LV) (k : Nat) (a : Array Value) : Prop := ∃ id e fz, S.getD id .any = .glob k (.cells a e fz)
theorem HasGlob.app {S : List LV} {k : Nat} {a : Array Value} (h : HasGlob S k a) (T : List LV) : HasGlob (S ++ T) k a := by
  obtain ⟨id, e, fz, h⟩ := h
  refine ⟨id, e, fz, ?_⟩
  rcases Nat.lt_or_ge id S.length with h1 | h1
  · rw [getD_app_lt _ _ _ _ h1]; exact h
  · rw [List.getD_eq_getElem?_getD, List.getElem?_eq_none h1] at h; cases h
theorem hasGlob_var {S : List LV} {k : Nat} {a : Array Value} {f : FuncId} {args : List LV} {vals : List Value} {r : LV} {v : Value} (h : HasGlob S k a) (ha : rigids args = some vals) (hr : rigid r = some v)
    (hc : ∀ w e fz, w.heap[k]? = some (.cells a e fz) → Calls P f vals.toArray w fun e w' => e = .returned v ∧ RowKit.Below w.heap.size w w') : LCalls P f args S r S := by
  obtain ⟨id, e, fz, h⟩ := h
  exact LCalls.belowG h ha hr fun w hh => hc w e fz hh

/-- A call that leaves all that was there, from values to what reads as r in any state. -/
theorem LCalls.belowX {f : FuncId} {args S : List LV} {vals : List Value} {r : LV} {I : World → Prop} (ha : rigids args = some vals)
    (hI : ∀ c : Cx, (∀ id, id < S.length → ∃ O, Rep c (S.getD id .any) (oval (S.getD id .any) (c.ι id)) O) → I c.w)
    (h : ∀ w, I w → Calls P f vals.toArray w fun e w' => (∃ v, e = .returned v ∧ ∀ c : Cx, Rep c r v []) ∧ RowKit.Below w.heap.size w w') : LCalls P f args S r S := by
  refine LCalls.ofS fun c vs o hl hrep hbd hsto => ?_
  rw [rigids_rep ha hl hrep]
  refine (h c.w (hI c hsto)).mono ?_
  rintro e w' ⟨⟨v, he, hr⟩, hb⟩
  exact ⟨{ c with w := w' }, v, [], he, rfl, ⟨Nat.le_refl _, fun _ _ => rfl, fun _ _ h => h, fun b o h => World.cell?_of_block (w := c.w) (hb.block b (hbd b o h)), hb.size, fun b hlt _ => hb.block b hlt, fun _ _ _ _ h => h, (fun _ _ _ _ h _ => False.elim h), hb.os, hb.tape, hb.output⟩,
    hr _, List.nodup_nil, by simp, rfl, fun b p h => Nat.lt_of_lt_of_le (hbd b p h) hb.size⟩
theorem glob_heap {S : List LV} {c : Cx} {id k : Nat} {ob : Obj} (hS : S.getD id .any = .glob k ob) (hsto : ∀ id, id < S.length → ∃ O, Rep c (S.getD id .any) (oval (S.getD id .any) (c.ι id)) O) : c.w.heap[k]? = some ob := by
  have hid : id < S.length := by
    rcases Nat.lt_or_ge id S.length with h1 | h1
    · exact h1
    · rw [List.getD_eq_getElem?_getD, List.getElem?_eq_none h1] at hS; cases hS
  obtain ⟨O, h2⟩ := hsto id hid
  rw [hS] at h2
  generalize oval (.glob k ob) (c.ι id) = z at h2
  cases h2 with
  | glob _ _ hh => exact hh
/-- A variable of the program's own that holds an error. -/
def HasErr (S : List LV) (k : Nat) : Prop := ∃ id e fz tp p, S.getD id .any = .glob k (.cells #[.iface tp p] e fz)
theorem HasErr.app {S : List LV} {k : Nat} (h : HasErr S k) (T : List LV) : HasErr (S ++ T) k := by
  obtain ⟨id, e, fz, tp, p, h⟩ := h
  refine ⟨id, e, fz, tp, p, ?_⟩
  rcases Nat.lt_or_ge id S.length with h1 | h1
  · rw [getD_app_lt _ _ _ _ h1]; exact h
  · rw [List.getD_eq_getElem?_getD, List.getElem?_eq_none h1] at h; cases h

/-- A function's answer on one number, if it is a truth. -/
def predA (hd : Hd Bool) (x : Nat) : Option Bool := hd [.int .i32 (x : Int)] [] fun v _ => match v with | .bool b => some b | _ => none
theorem pred_of {g : FuncId} {hd : Hd Bool} (hs : HSound P g hd) {x : Nat} {b : Bool} (h : predA hd x = some b) (W : World) : Calls P g #[.int .i32 (x : Int)] W fun e w' => e = .returned (.bool b) ∧ RowKit.Below W.heap.size W w' := by
  obtain ⟨_, v, S', hL, hK⟩ := hs _ _ _ _ h
  obtain rfl : v = .bool b := by
    split at hK
    · cases hK; rfl
    · cases hK
  refine (hL { ι := fun _ => 0, n := 0, I := fun _ _ => False, w := W } [.int .i32 (x : Int)] (fun _ => []) rfl (fun i hi => ?_) ⟨rfl, fun id hid => absurd hid (Nat.not_lt_zero _), fun _ _ h => h.elim⟩ ⟨fun _ => List.nodup_nil, fun _ _ _ _ h => by cases h⟩ (fun _ _ h => by cases h)).mono ?_
  · have : i = 0 := by simpa using hi
    subst this; exact .int _ _
  · rintro e w' ⟨c', u, o', rfl, rfl, hext, hrep, _, _, _, _⟩
    have hu := rep_bool hrep
    subst hu
    exact ⟨rfl, ⟨hext.os, hext.tape, hext.output, hext.size, fun b hb => hext.block b hb (fun ⟨k, hk⟩ => by cases hk)⟩⟩
end
end Go.Lm
