/- One operation: appends, components, bytes. -/
import Derived.Test.YtefkkflmiabfeaaGreatDoorLmE2
import Derived.Laws.BytesString
set_option linter.unusedVariables false
set_option linter.unusedSimpArgs false
namespace Go.Lm
section
variable {R : Type} {P : Program} {T : Nat → Option TI} {C : Nat → Hd R}

/-- What is in flight turns, and nothing else that is read. -/
theorem RelO.turn {fr : Fr} {q : Q} {a : Act} {c : Cx} {x : LV} {v : Value} {o : Ow} (h : RelO fr q a c [x] [v] o) {c' : Cx} {M : Nat → Prop} (he : Ext c c' M) (hM : ∀ b, M b → b ∈ o (.arg 0)) (hn : c'.n = c.n)
    (hbd : ∀ b p, c'.I b p → b < c'.w.heap.size) {x' : LV} {v' : Value} {O' : List Nat} (hr : Rep c' x' v' O') (hO : ∀ g, g ∈ O' → g ∈ o (.arg 0) ∨ c.w.heap.size ≤ g) (hnd : O'.Nodup) : RelX fr q a c' [x'] [v'] := by
  have rep : ∀ {y : LV} {u : Value} {k : Key}, k ≠ .arg 0 → Rep c y u (o k) → Rep c' y u (o k) := fun {y u k} hk r => r.ext he (fun g hg hm => h.sep.dj k (.arg 0) g hk hg (hM g hm))
  refine ⟨upd o (.arg 0) O', h.len, h.alen, fun t ht => ?_, h.al, ⟨by rw [hn]; exact h.sto.n, fun id hid => ?_, hbd⟩, fun i hi => ?_, rfl, ⟨fun k => ?_, fun k k' g hne hg => ?_⟩, ?_, fun k g hg => ?_, h.df⟩
  · rw [upd_other _ _ (by simp)]; exact rep (by simp) (h.env t ht)
  · rw [upd_other _ _ (by simp), he.ι id (by rw [h.sto.n]; exact hid)]; exact rep (by simp) (h.sto.r id hid)
  · have : i = 0 := by simp at hi; exact hi
    subst this; rw [upd_same]; exact hr
  · unfold upd; split
    · exact hnd
    · exact h.sep.nd k
  · have hlt : ∀ k g, g ∈ o k → g < c.w.heap.size := fun k g hg => (h.own k g hg).1
    unfold upd at hg ⊢
    split at hg
    · rename_i hk
      split
      · rename_i hk'; exact absurd (hk.trans hk'.symm) hne
      · rename_i hk'
        rcases hO g hg with h1 | h1
        · exact h.sep.dj _ _ g (fun e => hk' e.symm) h1
        · intro h2; have := hlt _ _ h2; omega
    · rename_i hk
      split
      · intro hg'
        rcases hO g hg' with h1 | h1
        · exact h.sep.dj _ _ g hk hg h1
        · have := hlt _ _ hg; omega
      · exact h.sep.dj _ _ g hne hg
  · refine h.ext.trans he (fun b hb hm => ?_)
    rcases (h.own _ b (hM b hm)).2 with h1 | h1
    · exact h1
    · omega
  · unfold upd at hg
    split at hg
    · refine ⟨hr.lt g hg, ?_⟩
      rcases hO g hg with h1 | h1
      · exact (h.own _ g h1).2
      · exact .inr (Nat.le_trans h.ext.size h1)
    · exact ⟨Nat.lt_of_lt_of_le (h.own k g hg).1 he.size, (h.own k g hg).2⟩

theorem cells_of_reads {c : Cx} {sz n b off : Nat} {cv : Nat → Value} (hc : ∀ p, p < n * sz → c.w.cell? ⟨b, off + p, none⟩ = some (cv p)) :
    ∀ j u, ((List.range (n * sz)).map cv)[j]? = some u → c.w.cell? ((⟨b, off, none⟩ : Addr).add j) = some u := by
  intro j u hu
  rw [Addr.add_lit]
  simp only [List.getElem?_map] at hu
  by_cases hj : j < n * sz
  · simp [hj] at hu; rw [← hu]; exact hc j hj
  · rw [List.getElem?_eq_none (by simp; omega)] at hu; simp at hu
/-- What a slice hands to an append. -/
theorem src_of {c : Cx} {t e : TypeId} {i : TypeInfo} {sz : Nat} {xs : List LV} {v : Value} (hd : P.underlying t = some (.slice e)) (hsz : i.size = sz) (h : Rep c (.sl sz xs) v []) :
    ∃ news : List Value, Src P i.size t v xs.length news c.w ∧ news.length = xs.length * sz ∧ (∀ p, p < xs.length * sz → (news.getD p undef).oneCell' = true) ∧ ∀ p, p < xs.length * sz → Rep c (leaf (xs.getD (p / sz) .any) (p % sz)) (news.getD p undef) [] := by
  subst hsz
  obtain ⟨A, cap, rfl, hcap, hmax, hcells⟩ := rep_sl h
  rcases Nat.eq_zero_or_pos xs.length with h0 | h0
  · refine ⟨[], ?_, by simp [h0], fun p hp => by simp [h0] at hp, fun p hp => by simp [h0] at hp⟩
    rw [h0]
    cases A with
    | none => exact Src.ofNil c.w hd cap
    | some ad => exact Src.ofSlice c.w hd ad 0 cap [] (by simp) (by simp) (by simp)
  · obtain ⟨b, off, cv, rfl, hc, hI, h1, hr⟩ := hcells h0
    refine ⟨(List.range (xs.length * i.size)).map cv, Src.ofSlice c.w hd _ _ _ _ (by simp) (cells_of_reads hc) (fun u hu => ?_), by simp, fun p hp => ?_, fun p hp => ?_⟩
    · obtain ⟨p, hp, rfl⟩ := List.mem_map.1 hu
      exact h1 p (by simpa using hp)
    · simpa [List.getD_eq_getElem?_getD, hp] using h1 p hp
    · simpa [List.getD_eq_getElem?_getD, hp] using hr p hp

theorem run_append_room_row {w : World} {t tx ty e e' : TypeId} {i : TypeInfo} (ht : P.underlying t = some (.slice e)) (hi : P.info? e = some i) (g sLen sCap : Nat) (cur : Array Value) (hg : w.heap[g]? = some (.cells cur e' (0, 0)))
    (x : Value) (n : Nat) (news : List Value) (hs : Src P i.size tx x n news w) (hroom : sLen + n ≤ sCap) (hfit : sLen * i.size + news.length ≤ cur.size) :
    (Builtin.append_ #[t, tx] ty #[.slice (some ⟨g, 0, none⟩) sLen sCap, x]).run P w =
      .ok (.slice (some ⟨g, 0, none⟩) (sLen + n) sCap) (w.setRow g (cur.toList.take (sLen * i.size) ++ news ++ cur.toList.drop (sLen * i.size + news.length)).toArray) := by
  have hst := run_storeCells_at P g (sLen * i.size) e' news 0 cur w hg (by simpa using hfit) hs.one
  simp only [Nat.add_zero] at hst
  rcases hs.kind with ⟨e', hk⟩ | hk <;> simp [Builtin.append_, run_underlying ht, run_underlying hk, sizeOf, typeInfo, hi, hs.len, hroom, hs.cells, Addr.add_lit, hst]

theorem getD_app3 (xs ys : List LV) (i : Nat) : (xs ++ ys).getD i .any = if i < xs.length then xs.getD i .any else ys.getD (i - xs.length) .any := by
  simp only [List.getD_eq_getElem?_getD]
  split
  · rename_i h; rw [List.getElem?_append_left h]
  · rename_i h; rw [List.getElem?_append_right (by omega)]
theorem leaf_app {sz : Nat} (ys xs : List LV) (p : Nat) (hp : p < (ys.length + xs.length) * sz) :
    leaf ((ys ++ xs).getD (p / sz) .any) (p % sz) = if p < ys.length * sz then leaf (ys.getD (p / sz) .any) (p % sz) else leaf (xs.getD ((p - ys.length * sz) / sz) .any) ((p - ys.length * sz) % sz) := by
  have hsz : 0 < sz := Nat.pos_of_ne_zero fun e => by subst e; simp at hp
  rw [getD_app3]
  by_cases h : p < ys.length * sz
  · rw [if_pos h, if_pos (Nat.div_lt_of_lt_mul (by rw [Nat.mul_comm]; exact h))]
  · rw [if_neg h]
    obtain ⟨m, rfl⟩ : ∃ m, p = m + ys.length * sz := ⟨p - ys.length * sz, by omega⟩
    rw [Nat.add_mul_div_right _ _ hsz, Nat.add_mul_mod_self_right, if_neg (Nat.not_lt.2 (Nat.le_add_left _ _)), Nat.add_sub_cancel, Nat.add_sub_cancel]

/-- What a string hands to an append. -/
theorem src_str {c : Cx} {t : TypeId} {s : ByteArray} {v : Value} {O : List Nat} (hd : P.underlying t = some .string) (h : Rep c (.str s) v O) :
    ∃ news : List Value, Src P 1 t v (bytesL s).length news c.w ∧ news.length = (bytesL s).length * 1 ∧ (∀ p, p < (bytesL s).length * 1 → (news.getD p undef).oneCell' = true) ∧ ∀ p, p < (bytesL s).length * 1 → Rep c (leaf ((bytesL s).getD (p / 1) .any) (p % 1)) (news.getD p undef) [] := by
  obtain rfl : v = .string s := by cases h; rfl
  have hl : (bytesL s).length = s.size := by
    unfold bytesL; rw [List.length_map, Array.length_toList]; rfl
  have hg : ∀ p, p < s.size → (byteCells s).getD p undef = .int .u8 (s.data.toList.getD p 0).toNat ∧ (bytesL s).getD p .any = .int .u8 (s.data.toList.getD p 0).toNat := fun p hp => by
    have hp' : p < s.data.toList.length := by rw [Array.length_toList]; exact hp
    constructor
    · unfold byteCells; simp only [List.getD_eq_getElem?_getD, List.getElem?_map, List.getElem?_eq_getElem hp']; rfl
    · unfold bytesL; simp only [List.getD_eq_getElem?_getD, List.getElem?_map, List.getElem?_eq_getElem hp']; rfl
  refine ⟨byteCells s, by rw [hl]; exact Src.ofString c.w hd s, by rw [byteCells_length, hl, Nat.mul_one], fun p hp => ?_, fun p hp => ?_⟩
  · rw [(hg p (by omega)).1]; rfl
  · rw [Nat.div_one, Nat.mod_one, (hg p (by omega)).1, (hg p (by omega)).2]
    exact .int _ _
/-- An append to what is owned: y the operand, x' what it owned before. -/
theorem ok_append {o : Oper} {q : Q} {x y : Operand} {t t' e : TypeId} {i : TypeInfo} {z : Value} {sz : Nat} {ys xs : List LV} (ho : o.op = .call { callee := .builtin .append, args := #[x, y], argTypes := #[t, t'] })
    (hd : P.underlying t = some (.slice e)) (hi : P.info? e = some i) (hsz : i.size = sz) (hz : i.zero = some z) (hzs : z.cells.size = i.size)
    (hzo : ∀ p, p < z.cells.size → (z.cells.getD p undef).oneCell' = true)
    (hx : ev q.E x = .own e sz ys ∨ (ev q.E x = .nilsl ∧ ys = [])) (hy : ∀ {c : Cx} {w : Value} {O : List Nat}, Rep c (ev q.E y) w O → ∃ news : List Value, Src P sz t' w xs.length news c.w ∧ news.length = xs.length * sz ∧ (∀ p, p < xs.length * sz → (news.getD p undef).oneCell' = true) ∧ ∀ p, p < xs.length * sz → Rep c (leaf (xs.getD (p / sz) .any) (p % sz)) (news.getD p undef) [])
    (hb : (ys.length + xs.length) * i.bytes ≤ 140737488355328) (h63 : ys.length + xs.length ≤ 9223372036854775807) : OpOk P q o (.own e sz (ys ++ xs)) none (q.used x) := by
  refine op_val fun fr a c hr => ?_
  obtain ⟨ow, hr⟩ := hr
  obtain ⟨Oy, ry⟩ := hr.evo y
  obtain ⟨news, hsrc, hnl, hn1, hnr⟩ := hy ry
  obtain ⟨o1, h1⟩ := hr.take x
  simp only [List.nil_append] at h1
  have hfly := h1.fly 0 (by simp)
  simp only [List.getD_cons_zero] at hfly
  -- what is owned, in the machine's words
  have hown : Rep c (.own e sz ys) (a.eval x) (o1 (.arg 0)) := by
    rcases hx with hx | ⟨hx, rfl⟩
    · rw [hx] at hfly; exact hfly
    · rw [hx] at hfly
      generalize hv : a.eval x = v at hfly
      generalize hO : o1 (.arg 0) = O at hfly
      cases hfly
      exact .own0 e sz
  rw [← hsz] at hsrc
  have run_it : ∀ {v : Value} {w' : World}, (Builtin.append_ #[t, t'] o.type #[a.eval x, a.eval y]).run P c.w = .ok v w' → (execOp a.eval o).run P c.w = .ok (.value v) w' := fun {v w'} h =>
    run_call_builtin ho (by simp [builtin, h])
  -- a new row
  have grow : ∀ (base : Option Addr) (cap : Nat) (olds : List Value), a.eval x = .slice base ys.length cap → cap < ys.length + xs.length → olds.length = ys.length * sz → (∀ p, p < ys.length * sz → (olds.getD p undef).oneCell' = true) →
      (∀ p, p < ys.length * sz → Rep c (leaf (ys.getD (p / sz) .any) (p % sz)) (olds.getD p undef) []) → (Builtin.firstCells i.size ys.length (.slice base ys.length cap)).run P c.w.drew = .ok olds.toArray c.w.drew →
      ∃ c' v, (execOp a.eval o).run P c.w = .ok (.value v) c'.w ∧ RelX fr (q.used x) a c' [.own e sz (ys ++ xs)] [v] ∧ ∀ e p, (none : Option (Nat × Nat)) = some (e, p) → e < (q.used x).E.length ∧ ∃ g, a.tmps.getD e undef = .pointer (some ⟨g, 0, none⟩) ∧ v = .pointer (some ⟨g, p, none⟩) := by
    intro base cap olds hv hcap hol ho1 hor hfirst
    have hrun := run_append_grow_src (P := P) c.w t t' o.type e i z hd hi hz base ys.length cap olds hfirst (a.eval y) xs.length news hsrc hcap (by omega) (growslice_fits (by omega) hb)
    generalize hcells : ((olds ++ news).toArray ++ Builtin.zeroCells z.cells (grownCap c.w (ys.length + xs.length) cap e - (ys.length + xs.length))) = cells at hrun
    have hge := grownCap_ge c.w (ys.length + xs.length) cap e
    have hle : grownCap c.w (ys.length + xs.length) cap e ≤ 9223372036854775807 := grownCap_le_maxLen c.w (ys.length + xs.length) cap e (by unfold maxLen; omega)
    generalize hcap' : grownCap c.w (ys.length + xs.length) cap e = cap' at *
    have hsize : cells.size = cap' * sz := by
      subst hcells
      simp only [Array.size_append, List.size_toArray, List.length_append, size_zeroCells, hol, hnl, hzs, hsz, ← Nat.add_mul]
      congr 1; omega
    have hget : ∀ p, p < (ys.length + xs.length) * sz → cells.getD p undef = if p < ys.length * sz then olds.getD p undef else news.getD (p - ys.length * sz) undef := fun p hp => by
      subst hcells
      have hl2 : (olds ++ news).length = (ys.length + xs.length) * sz := by rw [List.length_append, hol, hnl, Nat.add_mul]
      simp only [Array.getD_eq_getD_getElem?, List.getD_eq_getElem?_getD]
      rw [Array.getElem?_append_left (by simpa [hl2] using hp)]
      simp only [List.getElem?_toArray]
      split
      · rename_i h; rw [List.getElem?_append_left (by omega)]
      · rename_i h; rw [List.getElem?_append_right (by omega), hol]
    let c' : Cx := { c with I := fun b p => c.I b p ∨ (b = c.w.heap.size ∧ p < (ys.length + xs.length) * sz), w := c.w.drew.alloc (.cells cells e) }
    have hlt : ∀ b, b < c.w.heap.size → (c.w.drew.alloc (.cells cells e)).heap[b]? = c.w.heap[b]? := fun b hb => by
      show (c.w.heap.push _)[b]? = _
      rw [Array.getElem?_push, if_neg (by omega)]
    have hext : Ext c c' (fun _ => False) := ⟨Nat.le_refl _, fun _ _ => rfl, fun b p hp => .inl hp, fun b p hp => World.cell?_of_block (w := c.w) (hlt b (hr.sto.bd b p hp)), by show _ ≤ (c.w.heap.push _).size; simp, fun b hb _ => hlt b hb,
      fun b p hb _ hp => by
        rcases hp with hp | hp
        · exact hp
        · omega, (fun _ _ _ _ h _ => False.elim h), rfl, rfl, rfl⟩
    have hI : ∀ p, c'.I c.w.heap.size p ↔ p < (ys ++ xs).length * sz := fun p => by
      rw [List.length_append]
      exact ⟨fun hp => by
        rcases hp with hp | hp
        · have := hr.sto.bd _ _ hp; omega
        · exact hp.2, fun hp => .inr ⟨rfl, hp⟩⟩
    have hall : ∀ p, p < cells.size → (cells.getD p undef).oneCell' = true := fun p hp => by
      by_cases h : p < (ys.length + xs.length) * sz
      · rw [hget p h]
        split
        · rename_i h2; exact ho1 p h2
        · rename_i h2; exact hn1 _ (by rw [Nat.add_mul] at h; omega)
      · have hl2 : (olds ++ news).length = (ys.length + xs.length) * sz := by rw [List.length_append, hol, hnl, Nat.add_mul]
        subst hcells
        simp only [Array.getD_eq_getD_getElem?]
        rw [Array.getElem?_append_right (by simp [hl2]; omega)]
        unfold Builtin.zeroCells
        simp only [List.size_toArray, hl2]
        have hp' : p - (ys.length + xs.length) * sz < (cap' - (ys.length + xs.length)) * z.cells.size := by
          simp only [Array.size_append, List.size_toArray, hl2, size_zeroCells] at hp; omega
        have hz0 : 0 < z.cells.size := Nat.pos_of_ne_zero fun e => by rw [e] at hp'; simp at hp'
        have hm := Nat.mod_lt (p - (ys.length + xs.length) * sz) hz0
        have := hzo _ hm
        simpa [hp', hm, Array.getD_eq_getD_getElem?] using this
    have hrep : Rep c' (.own e sz (ys ++ xs)) (.slice (some ⟨c.w.heap.size, 0, none⟩) (ys ++ xs).length cap') [c.w.heap.size] := by
      refine .own e sz _ cap' (ys ++ xs) cells (by rw [List.length_append]; exact hge) hle (heap_alloc_new c.w.drew _) hsize hI hall (fun p hp => ?_)
      rw [List.length_append] at hp
      rw [leaf_app ys xs p hp, hget p hp]
      split
      · rename_i h; exact (hor p h).ext hext (fun g hg => by simp at hg)
      · rename_i h; exact (hnr _ (by rw [Nat.add_mul] at hp; omega)).ext hext (fun g hg => by simp at hg)
    refine ⟨c', .slice (some ⟨c.w.heap.size, 0, none⟩) (ys ++ xs).length cap', ?_, ?_, fun _ _ h => by cases h⟩
    · rw [List.length_append]; exact run_it (by rw [hv]; exact hrun)
    · exact h1.turn hext (fun _ h => h.elim) rfl (fun b p hp => by
        show b < (c.w.heap.push _).size
        rcases hp with hp | hp
        · have := hr.sto.bd b p hp; simp; omega
        · simp; omega) hrep (fun g hg => by simp at hg; subst hg; exact .inr (Nat.le_refl _)) (by simp)
  generalize hv : a.eval x = v at hown
  generalize hO : o1 (.arg 0) = O at hown
  cases hown with
  | own0 =>
    by_cases hm : xs.length = 0
    · have hxs : xs = [] := List.eq_nil_of_length_eq_zero hm
      subst hxs
      refine ⟨c, .slice none 0 0, run_it ?_, ⟨o1, ?_⟩, fun _ _ h => by cases h⟩
      · rw [hv]
        have hl := hsrc.len
        have hc := hsrc.cells
        simp only [List.length_nil] at hl hc
        have hn0 : news = [] := List.eq_nil_of_length_eq_zero (by simpa using hnl)
        subst hn0
        rcases hsrc.kind with ⟨e', hk⟩ | hk <;> simp [Builtin.append_, run_underlying hd, run_underlying hk, sizeOf, typeInfo, hi, hl, hc]
      · refine ⟨h1.len, h1.alen, h1.env, h1.al, h1.sto, fun k hk => ?_, rfl, h1.sep, h1.ext, h1.own, h1.df⟩
        have : k = 0 := by simp at hk; exact hk
        subst this; rw [hO]; exact .own0 e sz
    · refine grow none 0 [] hv (by simp; omega) (by simp) (fun p hp => by simp at hp) (fun p hp => by simp at hp) ?_
      simp [Builtin.firstCells]
  | own _ _ g cap _ cur hcap hmax hh hs hI ho1 hr1 =>
    by_cases hroom : ys.length + xs.length ≤ cap
    · have hfit : ys.length * i.size + news.length ≤ cur.size := by rw [hnl, hs, hsz, ← Nat.add_mul]; exact Nat.mul_le_mul_right _ hroom
      have hrun := run_append_room_row (P := P) (ty := o.type) hd hi g ys.length cap cur hh (a.eval y) xs.length news hsrc hroom hfit
      generalize hnew : (List.take (ys.length * i.size) cur.toList ++ news ++ List.drop (ys.length * i.size + news.length) cur.toList).toArray = new at hrun
      have hnews : new.size = cur.size := by subst hnew; simp; omega
      have hnget : ∀ p, new.getD p undef = if ys.length * sz ≤ p ∧ p < (ys.length + xs.length) * sz then news.getD (p - ys.length * sz) undef else cur.getD p undef := fun p => by
        subst hnew
        rw [getD_splice _ _ _ _ (by simp; omega), hnl, hsz, ← Nat.add_mul]
        congr 1
        simp [List.getD_eq_getElem?_getD, Array.getD_eq_getD_getElem?]
      have hother : ∀ b, b ≠ g → (c.w.setRow g new).heap[b]? = c.w.heap[b]? := fun b hb => setRow_other c.w g b new hb
      have hsize : (c.w.setRow g new).heap.size = c.w.heap.size := by simp [World.setRow]
      let c' : Cx := { c with I := fun b p => c.I b p ∨ (b = g ∧ p < (ys.length + xs.length) * sz), w := c.w.setRow g new }
      have hglt : g < c.w.heap.size := (Array.getElem?_eq_some_iff.1 hh).1
      have hext : Ext c c' (fun b => b = g) := ⟨Nat.le_refl _, fun _ _ => rfl, fun b p hp => .inl hp, fun b p hp => by
          by_cases e : b = g
          · subst e
            have hp' := (hI p).1 hp
            have hle : ys.length * sz ≤ cur.size := by rw [hs]; exact Nat.mul_le_mul_right _ hcap
            have e1 : (c.w.setRow b new).cell? ⟨b, p, none⟩ = some (new.getD p undef) := by
              have : p < new.size := by omega
              simp [World.cell?, setRow_heap c.w b cur new e (0, 0) hh, this, Array.getD_eq_getD_getElem?]
            have e2 : c.w.cell? ⟨b, p, none⟩ = some (cur.getD p undef) := by
              have : p < cur.size := by omega
              simp [World.cell?, hh, this, Array.getD_eq_getD_getElem?]
            show (c.w.setRow b new).cell? _ = _
            rw [e1, e2, hnget, if_neg (by omega)]
          · exact World.cell?_of_block (w := c.w) (hother b e), by show _ ≤ (c.w.setRow g new).heap.size; omega,
        fun b _ hb => hother b hb, fun b p _ hb hp => by
          rcases hp with hp | hp
          · exact hp
          · exact absurd hp.1 hb, (fun b _ _ _ hb h => by subst hb; rw [hh] at h; cases h; exact ⟨new, _, setRow_heap c.w _ cur new _ (0, 0) hh, hnews⟩), rfl, rfl, rfl⟩
      have hIc : ∀ p, c'.I g p ↔ p < (ys ++ xs).length * sz := fun p => by
        rw [List.length_append]
        exact ⟨fun hp => by
          rcases hp with hp | hp
          · have := (hI p).1 hp; rw [Nat.add_mul]; omega
          · exact hp.2, fun hp => .inr ⟨rfl, hp⟩⟩
      have hrep : Rep c' (.own e sz (ys ++ xs)) (.slice (some ⟨g, 0, none⟩) (ys ++ xs).length cap) [g] := by
        refine .own e sz g cap (ys ++ xs) new (by rw [List.length_append]; exact hroom) hmax (setRow_heap c.w g cur new e (0, 0) hh) (by rw [hnews, hs]) hIc (fun p hp => ?_) (fun p hp => ?_)
        · rw [hnget]
          split
          · rename_i h; exact hn1 _ (by rw [Nat.add_mul] at h; omega)
          · exact ho1 p (by omega)
        · rw [List.length_append] at hp
          rw [leaf_app ys xs p hp, hnget]
          by_cases h : p < ys.length * sz
          · rw [if_pos h, if_neg (by omega)]; exact (hr1 p h).ext hext (fun g hg => by simp at hg)
          · rw [if_neg h, if_pos ⟨by omega, hp⟩]; exact (hnr _ (by rw [Nat.add_mul] at hp; omega)).ext hext (fun g hg => by simp at hg)
      refine ⟨c', .slice (some ⟨g, 0, none⟩) (ys ++ xs).length cap, ?_, ?_, fun _ _ h => by cases h⟩
      · rw [List.length_append]; exact run_it (by rw [hv]; exact hrun)
      · exact h1.turn hext (fun b hb => by rw [hO]; simpa using hb) rfl (fun b p hp => by
          show b < (c.w.setRow g new).heap.size
          rw [hsize]
          rcases hp with hp | hp
          · exact hr.sto.bd b p hp
          · rw [hp.1]; exact hglt) hrep (fun g' hg' => by simp at hg'; subst hg'; rw [hO]; exact .inl (by simp)) (by simp)
    · refine grow (some ⟨g, 0, none⟩) cap (cur.toList.take (ys.length * sz)) hv (by omega) ?_ (fun p hp => ?_) (fun p hp => ?_) ?_
      · have : ys.length * sz ≤ cur.size := by rw [hs]; exact Nat.mul_le_mul_right _ hcap
        simp; omega
      · have : p < cur.size := by rw [hs]; exact Nat.lt_of_lt_of_le hp (Nat.mul_le_mul_right _ hcap)
        have h2 := ho1 p this
        simpa [List.getD_eq_getElem?_getD, List.getElem?_take, hp, Array.getD_eq_getD_getElem?] using h2
      · have h2 := hr1 p hp
        simpa [List.getD_eq_getElem?_getD, List.getElem?_take, hp, Array.getD_eq_getD_getElem?] using h2
      · have hle : ys.length * sz ≤ cur.size := by rw [hs]; exact Nat.mul_le_mul_right _ hcap
        refine run_firstCells_some c.w.drew i.size ys.length _ _ _ _ (by simp [hsz]; omega) (fun j v hj => ?_)
        rw [Addr.add_lit]
        rw [List.getElem?_take] at hj
        split at hj
        · rename_i hjl
          have : j < cur.size := by omega
          simp [this] at hj
          subst hj
          show c.w.cell? _ = _
          simp [World.cell?, hh, this]
        · cases hj
end
end Go.Lm
