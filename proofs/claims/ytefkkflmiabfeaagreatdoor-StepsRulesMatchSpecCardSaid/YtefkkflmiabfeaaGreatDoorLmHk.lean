/- Handlers by hand: the keys of a map in order. -/
import Derived.Test.YtefkkflmiabfeaaGreatDoorLmHd
import Derived.Shelf.SlIter.Nil
import Derived.Shelf.SlIterI.Nil
set_option linter.unusedVariables false
set_option linter.unusedSimpArgs false
namespace Go.Lm
open Go.RowKit
section
variable {R : Type} {P : Program}

theorem rigids_get : ∀ {xs : List LV} {us : List Value}, rigids xs = some us → us.length = xs.length ∧ ∀ i, i < xs.length → rigid (xs.getD i .any) = some (us.getD i undef)
  | [], us, h => by cases h; exact ⟨rfl, fun i hi => by simp at hi⟩
  | x :: xs, us, h => by
    simp only [rigids] at h
    split at h
    · rename_i v vs h1 h2
      cases h
      obtain ⟨e, ih⟩ := rigids_get h2
      refine ⟨by simp [e], fun i hi => ?_⟩
      cases i with
      | zero => simpa using h1
      | succ i => simpa using ih i (by simpa using hi)
    · cases h
theorem rigid_one {x : LV} {v : Value} (h : rigid x = some v) : v.oneCell' = true ∧ leaf x 0 = x := by
  cases x <;> simp only [rigid] at h <;> first | (cases h; exact ⟨rfl, rfl⟩) | cases h
/-- A call that reads a map behind its argument, and hands back a new row. -/
theorem LCalls.sorted {f g : FuncId} {S : List LV} {id m ty e : Nat} {kd : KD} {kvs : List (LV × LV)} {xs : List LV} {us : List Value} (h1 : S.getD id .any = .obj ty [.map m]) (h2 : S.getD m .any = .mp kd kvs) (hx : rigids xs = some us) (hn : xs.length ≤ 9223372036854775807)
    (h : ∀ (w : World) (b gm : Nat) (es : Array MapEntry) (clock : Nat), w.cell? ⟨b, 0, none⟩ = some (.map (some gm)) → b < w.heap.size → w.heap[gm]? = some (.map es clock) → MapKept.Stamped es clock → es.size = kvs.length →
      (∀ i, i < kvs.length → rigid (kvs.getD i (.any, .any)).1 = some (es.getD i ⟨undef, undef, 0⟩).key ∧ keyOk kd (kvs.getD i (.any, .any)).1 = true) →
      Calls P f #[.func (.func g) #[] #[.pointer (some ⟨b, 0, none⟩)]] w fun en w' => ∃ v, en = .returned v ∧ w'.ownsRow w.heap.size e 1 v xs.length us ∧ Below w.heap.size w w') :
    LCalls P f [.fn g [.ptr id 0]] S (.sl 1 xs) S := by
  refine LCalls.ofS fun c vs o hvl hvr hbd hsto => ?_
  have r0 := hvr 0 (by simp)
  simp only [List.getD_cons_zero] at r0
  have hvs : vs = [.func (.func g) #[] #[.pointer (some ⟨c.ι id, 0, none⟩)]] := by
    cases vs with
    | nil => simp at hvl
    | cons v vs =>
      cases vs with
      | nil =>
        simp only [List.getD_cons_zero] at r0
        generalize o 0 = O at r0
        cases r0 with
        | fn _ _ cs hs hr =>
          have hr0 := hr 0 (by simp)
          simp only [List.getD_cons_zero] at hr0
          obtain ⟨_, hv, _⟩ := rep_ptr hr0
          have hs1 : cs.size = 1 := by simpa using hs
          have : cs = #[.pointer (some ⟨c.ι id, 0, none⟩)] := by
            apply Array.ext
            · simp [hs1]
            · intro j hj1 hj2
              have hj : j = 0 := by omega
              subst hj
              simpa [Array.getD_eq_getD_getElem?, hj1] using hv
          rw [this]
      | cons => simp at hvl
  subst hvs
  have hid1 := getD_lt h1 (by simp)
  have hid2 := getD_lt h2 (by simp)
  obtain ⟨O1, s1⟩ := hsto id hid1
  obtain ⟨O2, s2⟩ := hsto m hid2
  rw [h1] at s1
  rw [h2] at s2
  simp only [oval] at s1 s2
  generalize hb : c.ι id = b at s1
  generalize hg : c.ι m = gm at s2
  cases s1 with
  | obj _ _ _ cur os hs hh hI ho1 hrep =>
  cases s2 with
  | mp _ _ _ es clock hh2 hst hs2 hk hI2 hr2 =>
  have hs : cur.size = 1 := hs
  have hc0 : c.w.cell? ⟨b, 0, none⟩ = some (.map (some gm)) := by
    have h3 := hrep 0 (by simp)
    simp only [List.getD_cons_zero] at h3
    have h0 : 0 < cur.size := by omega
    generalize hz : cur.getD 0 undef = z at h3
    generalize os 0 = O0 at h3
    cases h3
    rw [hg] at hz
    simp [World.cell?, hh]
    simpa [Array.getD_eq_getD_getElem?, h0] using hz
  refine (h c.w b gm es clock hc0 (Array.getElem?_eq_some_iff.1 hh).1 hh2 hst hs2 hk).mono ?_
  rintro en w' ⟨v, he, ⟨hl, hrow⟩, hbl⟩
  obtain ⟨hul, hur⟩ := rigids_get hx
  have hsize := hbl.size
  rcases hrow with ⟨rfl, h0⟩ | ⟨g0, cap, cur2, rfl, hg0, hh0, hn0, hcap, hsz, htk⟩
  · have : xs = [] := List.eq_nil_of_length_eq_zero h0
    subst this
    exact ⟨{ c with w := w' }, _, [], he, rfl, ⟨Nat.le_refl _, fun _ _ => rfl, fun _ _ h => h, fun b o h => World.cell?_of_block (hbl.block b (hbd b o h)), hbl.size, fun b hlt _ => hbl.block b hlt, fun _ _ _ _ h => h, (fun _ _ _ _ h _ => False.elim h), hbl.os, hbl.tape, hbl.output⟩,
      .sl0 1 none 0 (fun _ => rfl), List.nodup_nil, by simp, rfl, fun b p h => Nat.lt_of_lt_of_le (hbd b p h) hbl.size⟩
  · have hglt := (Array.getElem?_eq_some_iff.1 hh0).1
    let c' : Cx := { c with I := fun b p => c.I b p ∨ (b = g0 ∧ p < xs.length), w := w' }
    have hcell : ∀ p, p < xs.length → p < cur2.size ∧ cur2.getD p undef = us.getD p undef := fun p hp => by
      have hp2 : p < cur2.size := by rw [hsz]; omega
      refine ⟨hp2, ?_⟩
      have : (cur2.toList.take (xs.length * 1))[p]? = us[p]? := by rw [htk]
      rw [List.getElem?_take, if_pos (by omega)] at this
      simp only [List.getD_eq_getElem?_getD, Array.getD_eq_getD_getElem?, ← this, Array.getElem?_toList]
    refine ⟨c', _, [], he, rfl, ⟨Nat.le_refl _, fun _ _ => rfl, fun _ _ h => .inl h, fun b o h => World.cell?_of_block (hbl.block b (hbd b o h)), hbl.size, fun b hlt _ => hbl.block b hlt, fun b p hlt _ hp => by
        rcases hp with hp | hp
        · exact hp
        · omega, (fun _ _ _ _ h _ => False.elim h), hbl.os, hbl.tape, hbl.output⟩,
      .sl 1 g0 0 cap xs (fun p => cur2.getD p undef) hn0 hn (fun p hp => ?_) (fun p hp => .inr ⟨rfl, by omega⟩) (fun p hp => ?_) (fun p hp => ?_), List.nodup_nil, by simp, rfl, fun b p hp => ?_⟩
    · obtain ⟨hp2, _⟩ := hcell p (by omega)
      show w'.cell? _ = _
      simp [World.cell?, hh0, hp2, Array.getD_eq_getD_getElem?]
    · obtain ⟨_, e1⟩ := hcell p (by omega)
      rw [e1]; exact (rigid_one (hur p (by omega))).1
    · obtain ⟨_, e1⟩ := hcell p (by omega)
      have h3 := hur p (by omega)
      rw [Nat.div_one, Nat.mod_one, (rigid_one h3).2, e1]
      exact rigid_mk h3
    · rcases hp with hp | ⟨rfl, _⟩
      · exact Nat.lt_of_lt_of_le (hbd b p hp) hbl.size
      · exact hglt

/-! ### Keys, in the kit's words -/
def keyS : LV → List UInt8
  | .str s => s.data.toList
  | _ => []
def keyI : LV → Int
  | .int _ n => n
  | _ => 0
def sortS (kvs : List (LV × LV)) : List (List UInt8) := (kvs.map fun kv => keyS kv.1).mergeSort fun x y => decide (x ≤ y)
def sortI (kvs : List (LV × LV)) : List Int := (kvs.map fun kv => keyI kv.1).mergeSort fun x y => decide (x ≤ y)
def R0 : Value → Option (DataW Unit × List MemPlace) := fun _ => some (.nil, [])
theorem map_getD_idx {α β : Type} {f : α → β} {l : List α} {m : List β} {d : α} {e : β} (hl : m.length = l.length) (h : ∀ i, i < l.length → m.getD i e = f (l.getD i d)) : m = l.map f := by
  apply List.ext_getElem?
  intro i
  rcases Nat.lt_or_ge i l.length with h1 | h1
  · have := h i h1
    have h2 : i < m.length := by omega
    simp only [List.getD_eq_getElem?_getD, List.getElem?_eq_getElem h1, List.getElem?_eq_getElem h2, Option.getD_some] at this
    simp [List.getElem?_eq_getElem h1, List.getElem?_eq_getElem h2, this]
  · have h2 : m.length ≤ i := by omega
    simp [List.getElem?_eq_none h1, List.getElem?_eq_none h2]
theorem own_keys {w : World} {gm clock : Nat} {es : Array MapEntry} {kvs : List (LV × LV)} {k : TypeId} (hh : w.heap[gm]? = some (.map es clock)) (hst : MapKept.Stamped es clock) (hs : es.size = kvs.length) (hm : kvs.length ≤ maxLen)
    (lit : LV → Lit) (hk : ∀ i, i < kvs.length → keyOf P k (es.getD i ⟨undef, undef, 0⟩).key = some (lit (kvs.getD i (.any, .any)).1)) :
    ∃ D0 : List (Lit × DataW Unit), w.ownsMap P k R0 gm es.size (.map D0) ∧ (D0.map Prod.fst).Perm (kvs.map fun kv => lit kv.1) := by
  have hrd : ∀ x ∈ es.toList, ∃ l, WideElems.rd P k R0 x = some (l, .nil) ∧ keyOf P k x.key = some l := fun x hx => by
    obtain ⟨i, hi, rfl⟩ := List.mem_iff_getElem.1 hx
    have hi' : i < es.size := by simpa using hi
    have := hk i (by omega)
    simp only [Array.getD_eq_getD_getElem?, Array.getElem?_eq_getElem hi', Option.getD_some] at this
    rw [Array.getElem_toList]
    exact ⟨_, by simp [WideElems.rd, this, R0], this⟩
  refine ⟨(es.toList.map (WideElems.rg P k R0)).foldr DataW.insert [], World.ownsMap_of_fit hh ⟨by rw [hs]; exact hm, hst, fun x hx => by obtain ⟨l, h1, _⟩ := hrd x hx; exact ⟨_, h1⟩⟩ (fun _ _ _ h => h), ?_⟩
  refine ((WideShapes.sorted_perm _).map Prod.fst).trans ?_
  rw [List.map_map]
  have : es.toList.map (Prod.fst ∘ WideElems.rg P k R0) = kvs.map fun kv => lit kv.1 := by
    refine map_getD_idx (d := (.any, .any)) (e := .bool false) (by simp [hs]) fun i hi => ?_
    have hi' : i < es.size := by omega
    have h2 : (WideElems.rg P k R0 es[i]).1 = lit (kvs.getD i (.any, .any)).1 := by
      obtain ⟨l, h1, h3⟩ := hrd es[i] (by simp [Array.getElem_mem])
      have := hk i hi
      simp only [Array.getD_eq_getD_getElem?, Array.getElem?_eq_getElem hi', Option.getD_some] at this
      rw [h3] at this
      cases this
      rw [WideElems.rg_of h1]
    simp [List.getD_eq_getElem?_getD, hi', h2]
  rw [this]
theorem sort_perm {α : Type} {r : α → α → Prop} [DecidableRel r] (ht : ∀ a b c, r a b → r b c → r a c) (ho : ∀ a b, r a b ∨ r b a) (ha : ∀ a b, r a b → r b a → a = b) {l l' : List α} (h : l.Perm l') : l.mergeSort (fun x y => decide (r x y)) = l'.mergeSort (fun x y => decide (r x y)) := by
  have hs : ∀ l : List α, (l.mergeSort (fun x y => decide (r x y))).Pairwise r := fun l =>
    (List.pairwise_mergeSort (le := fun x y => decide (r x y)) (fun a b c h1 h2 => by simp only [decide_eq_true_eq] at *; exact ht a b c h1 h2) (fun a b => by simpa using ho a b) l).imp fun h => by simpa using h
  refine List.Perm.eq_of_pairwise (le := r) (fun a b _ _ h1 h2 => ha a b h1 h2) (hs l) (hs l') ?_
  exact (List.mergeSort_perm _ _).trans (h.trans (List.mergeSort_perm _ _).symm)
end
end Go.Lm
