/- How a logical value reads in the machine's memory; what a step may turn. -/
import Derived.Test.YtefkkflmiabfeaaGreatDoorLmA
import Derived.Laws.World
import Derived.Laws.AppendOwn
import Derived.Deep.AppendSrc
import Derived.MapKept
set_option linter.unusedVariables false
set_option linter.unusedSimpArgs false
namespace Go.Lm

/-- A reading: where the store's objects lie, which cells never turn, the world. -/
structure Cx where
  ι : Nat → Nat
  n : Nat
  I : Nat → Nat → Prop
  w : World

def flatO (n : Nat) (os : Nat → List Nat) : List Nat := (List.range n).flatMap os

/-- 'Rep c x v O': the machine's value v reads as x; O: the blocks that it owns alone. -/
inductive Rep (c : Cx) : LV → Value → List Nat → Prop
  | int (k : IntKind) (n : Int) : Rep c (.int k n) (.int k n) []
  | bool (b : Bool) : Rep c (.bool b) (.bool b) []
  | str (s : ByteArray) : Rep c (.str s) (.string s) []
  | nilsl : Rep c .nilsl (.slice none 0 0) []
  | sl0 (sz : Nat) (a : Option Addr) (cap : Nat) (hn : a = none → cap = 0) : Rep c (.sl sz []) (.slice a 0 cap) []
  | sl (sz b off cap : Nat) (xs : List LV) (cv : Nat → Value) (hcap : xs.length ≤ cap) (hmax : xs.length ≤ 9223372036854775807)
      (hc : ∀ p, p < xs.length * sz → c.w.cell? ⟨b, off + p, none⟩ = some (cv p))
      (hI : ∀ p, p < xs.length * sz → c.I b (off + p)) (h1 : ∀ p, p < xs.length * sz → (cv p).oneCell' = true)
      (hr : ∀ p, p < xs.length * sz → Rep c (leaf (xs.getD (p / sz) .any) (p % sz)) (cv p) []) :
      Rep c (.sl sz xs) (.slice (some ⟨b, off, none⟩) xs.length cap) []
  | own0 (e sz : Nat) : Rep c (.own e sz []) (.slice none 0 0) []
  | own (e : TypeId) (sz g cap : Nat) (xs : List LV) (cur : Array Value) (hcap : xs.length ≤ cap) (hmax : cap ≤ 9223372036854775807)
      (hh : c.w.heap[g]? = some (.cells cur e (0, 0))) (hs : cur.size = cap * sz)
      (hI : ∀ p, c.I g p ↔ p < xs.length * sz) (h1 : ∀ p, p < cur.size → (cur.getD p undef).oneCell' = true)
      (hr : ∀ p, p < xs.length * sz → Rep c (leaf (xs.getD (p / sz) .any) (p % sz)) (cur.getD p undef) []) :
      Rep c (.own e sz xs) (.slice (some ⟨g, 0, none⟩) xs.length cap) [g]
  | cptr (x : LV) (o n b off : Nat) (cv : Nat → Value) (ho : o ≤ n)
      (hc : ∀ p, p < n → c.w.cell? ⟨b, off + p, none⟩ = some (cv p))
      (hI : ∀ p, p < n → c.I b (off + p)) (h1 : ∀ p, p < n → (cv p).oneCell' = true)
      (hr : ∀ p, p < n → Rep c (leaf x p) (cv p) []) :
      Rep c (.cptr x n o) (.pointer (some ⟨b, off + o, none⟩)) []
  | ptr (id o : Nat) (h : id < c.n) : Rep c (.ptr id o) (.pointer (some ⟨c.ι id, o, none⟩)) []
  | nilp : Rep c .nilp (.pointer none) []
  | map (id : Nat) (h : id < c.n) : Rep c (.map id) (.map (some (c.ι id))) []
  | nilm : Rep c .nilm (.map none) []
  | fn (f : FuncId) (caps : List LV) (cs : Array Value) (hs : cs.size = caps.length)
      (hr : ∀ i, i < caps.length → Rep c (caps.getD i .any) (cs.getD i undef) []) : Rep c (.fn f caps) (.func (.func f) #[] cs) []
  | nilf : Rep c .nilf .nilFunc []
  | nili : Rep c .nili .nilIface []
  | agg (xs : List LV) (cs : Array Value) (hs : cs.size = xs.length)
      (hr : ∀ i, i < xs.length → Rep c (xs.getD i .any) (cs.getD i undef) []) : Rep c (.agg xs) (.agg cs) []
  | tup (xs : List LV) (cs : Array Value) (os : Nat → List Nat) (hs : cs.size = xs.length)
      (hr : ∀ i, i < xs.length → Rep c (xs.getD i .any) (cs.getD i undef) (os i)) : Rep c (.tup xs) (.tuple cs) (flatO xs.length os)
  | lbox (xs : List LV) (g : Nat) (cur : Array Value) (e : TypeId) (hs : cur.size = xs.length)
      (hh : c.w.heap[g]? = some (.cells cur e (0, 0))) (hI : ∀ p, ¬ c.I g p) (h1 : ∀ p, p < cur.size → (cur.getD p undef).oneCell' = true)
      (hr : ∀ i, i < xs.length → Rep c (xs.getD i .any) (cur.getD i undef) []) : Rep c (.lbox xs) (.pointer (some ⟨g, 0, none⟩)) [g]
  | any (v : Value) : Rep c .any v []
  | und : Rep c .und undef []
  | mp (kd : KD) (kvs : List (LV × LV)) (g : Nat) (es : Array MapEntry) (clock : Nat) (hh : c.w.heap[g]? = some (.map es clock)) (hst : MapKept.Stamped es clock) (hs : es.size = kvs.length)
      (hk : ∀ i, i < kvs.length → rigid (kvs.getD i (.any, .any)).1 = some (es.getD i ⟨undef, undef, 0⟩).key ∧ keyOk kd (kvs.getD i (.any, .any)).1 = true)
      (hI : ∀ p, ¬ c.I g p) (hr : ∀ i, i < kvs.length → Rep c (kvs.getD i (.any, .any)).2 (es.getD i ⟨undef, undef, 0⟩).val []) : Rep c (.mp kd kvs) (.map (some g)) [g]
  | obj (e : TypeId) (xs : List LV) (g : Nat) (cur : Array Value) (os : Nat → List Nat) (hs : cur.size = xs.length)
      (hh : c.w.heap[g]? = some (.cells cur e (0, 0))) (hI : ∀ p, ¬ c.I g p) (h1 : ∀ p, p < cur.size → (cur.getD p undef).oneCell' = true)
      (hr : ∀ i, i < xs.length → Rep c (xs.getD i .any) (cur.getD i undef) (os i)) : Rep c (.obj e xs) (.pointer (some ⟨g, 0, none⟩)) (g :: flatO xs.length os)
  | vec (e : TypeId) (xs : List LV) (g : Nat) (cur : Array Value) (os : Nat → List Nat) (hs : xs.length ≤ cur.size)
      (hh : c.w.heap[g]? = some (.cells cur e (0, 0))) (hI : ∀ p, ¬ c.I g p) (h1 : ∀ p, p < cur.size → (cur.getD p undef).oneCell' = true)
      (hr : ∀ i, i < xs.length → Rep c (xs.getD i .any) (cur.getD i undef) (os i)) : Rep c (.vec e xs) (.pointer (some ⟨g, 0, none⟩)) (g :: flatO xs.length os)
  | osl (id o sz n cap : Nat) (h : id < c.n) (hcap : n ≤ cap) (hmax : cap ≤ 9223372036854775807)
      (hz : ∃ cur e k, c.w.heap[c.ι id]? = some (.cells cur e k) ∧ o + cap * sz ≤ cur.size) : Rep c (.osl id o sz n) (.slice (some ⟨c.ι id, o, none⟩) n cap) []
  | glob (k : Nat) (ob : Obj) (hh : c.w.heap[k]? = some ob) : Rep c (.glob k ob) (.pointer (some ⟨k, 0, none⟩)) [k]
  | nsl (sz : Nat) (xs : List LV) (v : Value) (a : Addr) (n cap : Nat) (hv : v = .slice (some a) n cap) (h : Rep c (.sl sz xs) v []) : Rep c (.nsl sz xs) v []

/-- What lies between two readings: M: the blocks that may turn. -/
structure Ext (c c' : Cx) (M : Nat → Prop) : Prop where
  n : c.n ≤ c'.n
  ι : ∀ id, id < c.n → c'.ι id = c.ι id
  I : ∀ b o, c.I b o → c'.I b o
  cell : ∀ b o, c.I b o → c'.w.cell? ⟨b, o, none⟩ = c.w.cell? ⟨b, o, none⟩
  size : c.w.heap.size ≤ c'.w.heap.size
  block : ∀ b, b < c.w.heap.size → ¬ M b → c'.w.heap[b]? = c.w.heap[b]?
  back : ∀ b o, b < c.w.heap.size → ¬ M b → c'.I b o → c.I b o
  fit : ∀ b cur e k, M b → c.w.heap[b]? = some (.cells cur e k) → ∃ cur' k', c'.w.heap[b]? = some (.cells cur' e k') ∧ cur'.size = cur.size
  os : c'.w.os = c.w.os
  tape : c'.w.tape = c.w.tape
  output : c'.w.output = c.w.output

/-- A block of cells stays one, of its size. -/
theorem Ext.fits {c c' : Cx} {M : Nat → Prop} (h : Ext c c' M) {b : Nat} {cur : Array Value} {e : TypeId} {k : Nat × Nat} (hb : c.w.heap[b]? = some (.cells cur e k)) : ∃ cur' k', c'.w.heap[b]? = some (.cells cur' e k') ∧ cur'.size = cur.size := by
  by_cases hm : M b
  · exact h.fit b cur e k hm hb
  · exact ⟨cur, k, (h.block b (Array.getElem?_eq_some_iff.1 hb).1 hm).trans hb, rfl⟩
theorem Ext.refl (c : Cx) (M : Nat → Prop) : Ext c c M := ⟨Nat.le_refl _, fun _ _ => rfl, fun _ _ h => h, fun _ _ _ => rfl, Nat.le_refl _, fun _ _ _ => rfl, fun _ _ _ _ h => h, fun _ cur _ k _ h => ⟨cur, k, h, rfl⟩, rfl, rfl, rfl⟩
theorem Ext.trans {c c' c'' : Cx} {M M' : Nat → Prop} (h : Ext c c' M) (h' : Ext c' c'' M') (hM : ∀ b, b < c.w.heap.size → M' b → M b) : Ext c c'' M where
  n := Nat.le_trans h.n h'.n
  ι id hi := (h'.ι id (Nat.lt_of_lt_of_le hi h.n)).trans (h.ι id hi)
  I b o hb := h'.I b o (h.I b o hb)
  cell b o hb := (h'.cell b o (h.I b o hb)).trans (h.cell b o hb)
  size := Nat.le_trans h.size h'.size
  block b hb hn := (h'.block b (Nat.lt_of_lt_of_le hb h.size) (fun hm => hn (hM b hb hm))).trans (h.block b hb hn)
  back b o hb hn hi := h.back b o hb hn (h'.back b o (Nat.lt_of_lt_of_le hb h.size) (fun hm => hn (hM b hb hm)) hi)
  fit b cur e k _ hb := by
    obtain ⟨cur1, k1, h1, e1⟩ := h.fits hb
    obtain ⟨cur2, k2, h2, e2⟩ := h'.fits h1
    exact ⟨cur2, k2, h2, e2.trans e1⟩
  os := h'.os.trans h.os
  tape := h'.tape.trans h.tape
  output := h'.output.trans h.output
theorem Ext.mono {c c' : Cx} {M M' : Nat → Prop} (h : Ext c c' M) (hM : ∀ b, M b → M' b) : Ext c c' M' :=
  ⟨h.n, h.ι, h.I, h.cell, h.size, fun b hb hn => h.block b hb (fun hm => hn (hM b hm)), fun b o hb hn => h.back b o hb (fun hm => hn (hM b hm)), fun _ _ _ _ _ hb => h.fits hb, h.os, h.tape, h.output⟩

/-- What is read stays: none of what is owned is among what may turn. -/
theorem Rep.ext {c c' : Cx} {M : Nat → Prop} (h : Ext c c' M) {x : LV} {v : Value} {O : List Nat} (r : Rep c x v O) (hO : ∀ g, g ∈ O → ¬ M g) : Rep c' x v O := by
  induction r with
  | int k n => exact .int k n
  | bool b => exact .bool b
  | str s => exact .str s
  | nilsl => exact .nilsl
  | sl0 sz a cap hn => exact .sl0 sz a cap hn
  | sl sz b off cap xs cv hcap hmax hc hI h1 hr ih =>
    exact .sl sz b off cap xs cv hcap hmax (fun p hp => (h.cell _ _ (hI p hp)).trans (hc p hp)) (fun p hp => h.I _ _ (hI p hp)) h1 (fun p hp => ih p hp (by simp))
  | own0 e sz => exact .own0 e sz
  | own e sz g cap xs cur hcap hmax hh hs hI h1 hr ih =>
    have hg : ¬ M g := hO g (by simp)
    have hlt : g < c.w.heap.size := (Array.getElem?_eq_some_iff.1 hh).1
    exact .own e sz g cap xs cur hcap hmax ((h.block g hlt hg).trans hh) hs (fun p => ⟨fun hp => (hI p).1 (h.back g p hlt hg hp), fun hp => h.I _ _ ((hI p).2 hp)⟩) h1 (fun p hp => ih p hp (by simp))
  | cptr x o n b off cv ho hc hI h1 hr ih =>
    exact .cptr x o n b off cv ho (fun p hp => (h.cell _ _ (hI p hp)).trans (hc p hp)) (fun p hp => h.I _ _ (hI p hp)) h1 (fun p hp => ih p hp (by simp))
  | ptr id o hid => rw [← h.ι id hid]; exact .ptr id o (Nat.lt_of_lt_of_le hid h.n)
  | nilp => exact .nilp
  | map id hid => rw [← h.ι id hid]; exact .map id (Nat.lt_of_lt_of_le hid h.n)
  | nilm => exact .nilm
  | fn f caps cs hs hr ih => exact .fn f caps cs hs (fun i hi => ih i hi (by simp))
  | nilf => exact .nilf
  | nili => exact .nili
  | agg xs cs hs hr ih => exact .agg xs cs hs (fun i hi => ih i hi (by simp))
  | tup xs cs os hs hr ih =>
    exact .tup xs cs os hs (fun i hi => ih i hi (fun g hg => hO g (List.mem_flatMap.2 ⟨i, List.mem_range.2 hi, hg⟩)))
  | lbox xs g cur e hs hh hI h1 hr ih =>
    have hg : ¬ M g := hO g (by simp)
    have hlt : g < c.w.heap.size := (Array.getElem?_eq_some_iff.1 hh).1
    exact .lbox xs g cur e hs ((h.block g hlt hg).trans hh) (fun p hp => hI p (h.back g p hlt hg hp)) h1 (fun i hi => ih i hi (by simp))
  | any v => exact .any v
  | und => exact .und
  | mp kd kvs g es clock hh hst hs hk hI hr ih =>
    have hg : ¬ M g := hO g (by simp)
    have hlt : g < c.w.heap.size := (Array.getElem?_eq_some_iff.1 hh).1
    exact .mp kd kvs g es clock ((h.block g hlt hg).trans hh) hst hs hk (fun p hp => hI p (h.back g p hlt hg hp)) (fun i hi => ih i hi (by simp))
  | obj e xs g cur os hs hh hI h1 hr ih =>
    have hg : ¬ M g := hO g (by simp)
    have hlt : g < c.w.heap.size := (Array.getElem?_eq_some_iff.1 hh).1
    exact .obj e xs g cur os hs ((h.block g hlt hg).trans hh) (fun p hp => hI p (h.back g p hlt hg hp)) h1 (fun i hi => ih i hi (fun g' hg' => hO g' (List.mem_cons_of_mem _ (List.mem_flatMap.2 ⟨i, List.mem_range.2 hi, hg'⟩))))
  | vec e xs g cur os hs hh hI h1 hr ih =>
    have hg : ¬ M g := hO g (by simp)
    have hlt : g < c.w.heap.size := (Array.getElem?_eq_some_iff.1 hh).1
    exact .vec e xs g cur os hs ((h.block g hlt hg).trans hh) (fun p hp => hI p (h.back g p hlt hg hp)) h1 (fun i hi => ih i hi (fun g' hg' => hO g' (List.mem_cons_of_mem _ (List.mem_flatMap.2 ⟨i, List.mem_range.2 hi, hg'⟩))))
  | glob k ob hh =>
    have hg : ¬ M k := hO k (by simp)
    have hlt : k < c.w.heap.size := (Array.getElem?_eq_some_iff.1 hh).1
    exact .glob k ob ((h.block k hlt hg).trans hh)
  | osl id o sz n cap hid hcap hmax hz =>
    obtain ⟨cur, e, k, h1, h2⟩ := hz
    obtain ⟨cur', k', h3, h4⟩ := h.fits h1
    rw [← h.ι id hid]; exact .osl id o sz n cap (Nat.lt_of_lt_of_le hid h.n) hcap hmax ⟨cur', e, k', by rw [h.ι id hid]; exact h3, by omega⟩
  | nsl sz xs v a n cap hv _ ih => exact .nsl sz xs v a n cap hv (ih (by simp))

/-- What is owned lies in memory. -/
theorem Rep.lt {c : Cx} {x : LV} {v : Value} {O : List Nat} (r : Rep c x v O) : ∀ g, g ∈ O → g < c.w.heap.size := by
  induction r with
  | own e sz g cap xs cur hcap hmax hh hs hI h1 hr ih => intro g' hg'; simp at hg'; subst hg'; exact (Array.getElem?_eq_some_iff.1 hh).1
  | tup xs cs os hs hr ih => intro g hg; obtain ⟨i, hi, hg⟩ := List.mem_flatMap.1 hg; exact ih i (List.mem_range.1 hi) g hg
  | lbox xs g cur e hs hh hI h1 hr ih => intro g' hg'; simp at hg'; subst hg'; exact (Array.getElem?_eq_some_iff.1 hh).1
  | glob k ob hh => intro g' hg'; simp at hg'; subst hg'; exact (Array.getElem?_eq_some_iff.1 hh).1
  | mp kd kvs g es clock hh hst hs hk hI hr ih => intro g' hg'; simp at hg'; subst hg'; exact (Array.getElem?_eq_some_iff.1 hh).1
  | obj e xs g cur os hs hh hI h1 hr ih =>
    intro g' hg'
    rcases List.mem_cons.1 hg' with rfl | hg'
    · exact (Array.getElem?_eq_some_iff.1 hh).1
    · obtain ⟨i, hi, hg⟩ := List.mem_flatMap.1 hg'; exact ih i (List.mem_range.1 hi) g' hg
  | vec e xs g cur os hs hh hI h1 hr ih =>
    intro g' hg'
    rcases List.mem_cons.1 hg' with rfl | hg'
    · exact (Array.getElem?_eq_some_iff.1 hh).1
    · obtain ⟨i, hi, hg⟩ := List.mem_flatMap.1 hg'; exact ih i (List.mem_range.1 hi) g' hg
  | _ => intro g hg; simp at hg

theorem Rep.dupL {c : Cx} {x : LV} {v : Value} {O : List Nat} (r : Rep c x v O) : Rep c (dupL x) v [] := by
  cases r with
  | own0 e sz => exact .sl0 sz none 0 (fun _ => rfl)
  | own e sz g cap xs cur hcap hmax hh hs hI h1 hr =>
    refine .sl sz g 0 cap xs (fun p => cur.getD p undef) hcap (by omega) (fun p hp => ?_) (fun p hp => ?_) (fun p hp => h1 p (by rw [hs]; exact Nat.lt_of_lt_of_le hp (Nat.mul_le_mul_right _ hcap))) hr
    · have hlt : p < cur.size := by rw [hs]; exact Nat.lt_of_lt_of_le hp (Nat.mul_le_mul_right _ hcap)
      simp [World.cell?, hh, hlt]
    · rw [Nat.zero_add]; exact (hI p).2 hp
  | agg xs cs hs hr => exact .any _
  | tup xs cs os hs hr => exact .any _
  | lbox xs g cur e hs hh hI h1 hr => exact .any _
  | int k n => exact .int k n
  | bool b => exact .bool b
  | str s => exact .str s
  | nilsl => exact .nilsl
  | sl0 sz a cap hn => exact .sl0 sz a cap hn
  | sl sz b off cap xs cv hcap hmax hc hI h1 hr => exact .sl sz b off cap xs cv hcap hmax hc hI h1 hr
  | cptr x o n b off cv ho hc hI h1 hr => exact .cptr x o n b off cv ho hc hI h1 hr
  | ptr id o hid => exact .ptr id o hid
  | nilp => exact .nilp
  | map id hid => exact .map id hid
  | nilm => exact .nilm
  | fn f caps cs hs hr => exact .fn f caps cs hs hr
  | nilf => exact .nilf
  | nili => exact .nili
  | any v => exact .any v
  | und => exact .und
  | mp kd kvs g es clock hh hst hs hk hI hr => exact .any _
  | obj xs g cur e os hs hh hI h1 hr => exact .any _
  | vec xs g cur e os hs hh hI h1 hr => exact .any _
  | glob k ob hh => exact .any _
  | osl id o sz n cap hid hcap hmax hz => exact .osl id o sz n cap hid hcap hmax hz
  | nsl sz xs v a n cap hv h => exact .nsl sz xs v a n cap hv h

theorem flatO_nil (n : Nat) : flatO n (fun _ => []) = [] := by simp [flatO]
theorem getD_map {f : LV → LV} (xs : List LV) (i : Nat) (hf : f .any = .any) : (xs.map f).getD i .any = f (xs.getD i .any) := by
  simp [List.getD_eq_getElem?_getD]
  cases xs[i]? <;> simp [hf]

theorem Rep.dup {c : Cx} {x : LV} {v : Value} {O : List Nat} (r : Rep c x v O) : Rep c (dup x) v [] := by
  have h0 := r.dupL
  cases r with
  | agg xs cs hs hr =>
    have := Rep.agg (c := c) (xs.map Lm.dupL) cs (by simpa using hs) (fun i hi => by
      rw [getD_map (f := Lm.dupL) _ _ rfl]; exact (hr i (by simpa using hi)).dupL)
    exact this
  | _ => exact h0

theorem Rep.one {c : Cx} {x : LV} {v : Value} {O : List Nat} (r : Rep c x v O) (h : one x = true) : v.oneCell' = true := by
  cases r <;> first | rfl | (subst_vars; rfl) | simp [Lm.one] at h
end Go.Lm
