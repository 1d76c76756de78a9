/- A call that grows a builder that holds nothing. -/
import Derived.Test.YtnapepffpbbkoaaGreatDoorLmHb
namespace Go.Lm
section
variable {R : Type} {P : Program}
theorem grow_world {w : World} {b : Nat} {ty e : TypeId} {cs : Array Value} {p q x y : Value} (hb : w.heap[b]? = some (.cells #[p, q] ty (0, 0))) :
    (((w.setCell ⟨b, 0, none⟩ x).alloc (.cells cs e)).setCell ⟨b, 1, none⟩ y).drew.drew.drew.drew = ((w.alloc (.cells cs e)).drew.drew.drew.drew).setRow b #[x, y] := by
  have hlt : b < w.heap.size := (Array.getElem?_eq_some_iff.1 hb).1
  have h1 : w.setCell ⟨b, 0, none⟩ x = w.setRow b #[x, q] := by
    rw [setCell_eq_setRow w b 0 #[p, q] ty (0, 0) x hb]; rfl
  rw [h1]
  have h2 : (w.setRow b #[x, q]).heap[b]? = some (.cells #[x, q] ty (0, 0)) := setRow_heap w b _ _ _ _ hb
  have hs : (w.setRow b #[x, q]).heap.size = w.heap.size := by simp [World.setRow]
  have h3 : ((w.setRow b #[x, q]).alloc (.cells cs e)).heap[b]? = some (.cells #[x, q] ty (0, 0)) := by
    rw [← h2]
    exact Array.getElem?_push_lt (by omega) |>.trans (by rw [Array.getElem?_eq_getElem (by omega)])
  have h4 : ((w.setRow b #[x, q]).alloc (.cells cs e)).setCell ⟨b, 1, none⟩ y = ((w.setRow b #[x, q]).alloc (.cells cs e)).setRow b #[x, y] := by
    rw [setCell_eq_setRow _ b 1 #[x, q] ty (0, 0) y h3]; rfl
  rw [h4]
  have h5 : (((w.setRow b #[x, q]).alloc (.cells cs e)).setRow b #[x, y]).heap = ((w.alloc (.cells cs e)).setRow b #[x, y]).heap := by
    apply Array.ext_getElem?
    intro i
    by_cases hi : i = b
    · subst hi
      have h6 : (w.alloc (.cells cs e)).heap[i]? = some (.cells #[p, q] ty (0, 0)) := by
        rw [← hb]
        exact Array.getElem?_push_lt hlt |>.trans (by rw [Array.getElem?_eq_getElem hlt])
      rw [setRow_heap _ _ _ _ _ _ h3, setRow_heap _ _ _ _ _ _ h6]
    · rw [setRow_other _ _ _ _ hi, setRow_other _ _ _ _ hi]
      show ((w.setRow b #[x, q]).heap.push _)[i]? = (w.heap.push _)[i]?
      rw [Array.getElem?_push, Array.getElem?_push, hs, setRow_other _ _ _ _ hi]
  exact congrArg (fun h => ({ heap := h, tape := w.tape, drawn := w.drawn + 1 + 1 + 1 + 1, os := w.os, output := w.output } : World)) h5
/-- A call that gives room to a builder that has not been written. -/
theorem LCalls.grow {f : FuncId} {S : List LV} {id ty e n : Nat} (hS : S.getD id .any = .obj ty [.nilp, .nilsl])
    (h : ∀ (b : Nat) (w : World), w.heap[b]? = some (.cells #[.pointer none, .slice none 0 0] ty (0, 0)) → Calls P f #[.pointer (some ⟨b, 0, none⟩), .int .i64 n] w fun en w' => en = .returned (.tuple #[]) ∧ ∃ cs : Array Value, cs.size ≤ 9223372036854775807 ∧ (∀ p, p < cs.size → (cs.getD p undef).oneCell' = true) ∧
      w' = (((w.setCell ⟨b, 0, none⟩ (.pointer (some ⟨b, 0, none⟩))).alloc (.cells cs e)).setCell ⟨b, 1, none⟩ (.slice (some ⟨w.heap.size, 0, none⟩) 0 cs.size)).drew.drew.drew.drew) : LCalls P f [.ptr id 0, .int .i64 n] S (.tup []) (S.set id (.obj ty [.ptr id 0, .own e 1 []])) := by
  intro c vs o hvl hvr hsto hsep hlt
  have hr := LCalls.enter hvl hvr hsto hsep hlt
  have r0 := hvr 0 (by simp)
  have r1 := hvr 1 (by simp)
  simp only [List.getD_cons_zero, List.getD_cons_succ] at r0 r1
  obtain ⟨hid, hv, -⟩ := rep_ptr r0
  have hv1 := rep_int r1
  obtain rfl : vs = [.pointer (some ⟨c.ι id, 0, none⟩), .int .i64 n] := by
    cases vs with
    | nil => simp at hvl
    | cons v vs =>
      cases vs with
      | nil => simp at hvl
      | cons v2 vs =>
        cases vs with
        | nil => simp only [List.getD_cons_zero, List.getD_cons_succ] at hv hv1; rw [hv, hv1]
        | cons => simp at hvl
  obtain ⟨_, cur, os, hO, hs, hh, hI, ho1, hrep⟩ := hr.obj hS
  have hcur : cur = #[.pointer none, .slice none 0 0] := by
    have h0 := hrep 0 (by simp)
    have h1 := hrep 1 (by simp)
    simp only [List.getD_cons_zero, List.getD_cons_succ] at h0 h1
    obtain ⟨l⟩ := cur
    match l, hs with
    | [a, b], _ =>
      have e0 : (#[a, b] : Array Value).getD 0 undef = a := rfl
      have e1 : (#[a, b] : Array Value).getD 1 undef = b := rfl
      rw [e0] at h0
      rw [e1] at h1
      generalize os 0 = O0 at h0
      generalize os 1 = O1 at h1
      cases h0; cases h1; rfl
  subst hcur
  refine (h (c.ι id) c.w hh).mono ?_
  rintro en w'' ⟨he, cs, hcs, hone, hw⟩
  rw [grow_world hh] at hw
  obtain ⟨o1, h1⟩ := hr.noFly
  obtain ⟨o2, h2⟩ := h1.fly1 (Rep.ptr (c := c) id 0 hid)
  obtain ⟨c', o3, hc', h3⟩ := h2.fresh' ((c.w.alloc (.cells cs e)).drew.drew.drew.drew) (fun k hk => Array.getElem?_push_lt hk |>.trans (by rw [Array.getElem?_eq_getElem hk])) (by show (c.w.heap.push _).size = _; simp) rfl rfl rfl (fun _ => False)
    (x := .own e 1 []) (v := .slice (some ⟨c.w.heap.size, 0, none⟩) 0 cs.size) (fun c' hw' hext hI' => ⟨[c.w.heap.size], .inr rfl, .own e 1 c.w.heap.size cs.size [] cs (Nat.zero_le _) hcs (by rw [hw']; exact Array.getElem?_push_size) (by omega) (fun p => by rw [hI' p]; simp) hone (fun p hp => by simp at hp)⟩)
  obtain ⟨w2, hst, hrel⟩ := h3.land (P := P) (id := id) (p := 0) hS (by simp) (fun u hu => by
    simp only [List.nil_append, List.cons_append, List.mem_cons, List.not_mem_nil, or_false] at hu
    rcases hu with rfl | rfl <;> rfl) rfl
  have hι : c'.ι id = c.ι id := h3.ext.ι id hid
  have hlt' : c.ι id < c.w.heap.size := (Array.getElem?_eq_some_iff.1 hh).1
  have hh' : c'.w.heap[c'.ι id]? = some (.cells #[.pointer none, .slice none 0 0] ty (0, 0)) := by
    rw [hc', hι, ← hh]
    exact Array.getElem?_push_lt hlt' |>.trans (by rw [Array.getElem?_eq_getElem hlt'])
  have hst2 := run_storeCells_at P (c'.ι id) 0 ty [.pointer (some ⟨c.ι id, 0, none⟩), .slice (some ⟨c.w.heap.size, 0, none⟩) 0 cs.size] 0 _ c'.w hh' (by simp) (fun u hu => by
    simp only [List.mem_cons, List.not_mem_nil, or_false] at hu
    rcases hu with rfl | rfl <;> rfl)
  rw [show ([] ++ [Value.pointer (some ⟨c.ι id, 0, none⟩)] ++ [Value.slice (some ⟨c.w.heap.size, 0, none⟩) 0 cs.size]) = [.pointer (some ⟨c.ι id, 0, none⟩), .slice (some ⟨c.w.heap.size, 0, none⟩) 0 cs.size] from rfl] at hst
  rw [hst2] at hst
  have hw2 : w2 = w'' := by
    cases hst
    rw [hw, hc', hι]
    rfl
  subst hw2
  exact LCalls.leave (c' := { c' with w := w2 }) rfl he rfl (Rep.tup [] #[] (fun _ => []) rfl (fun i hi => by simp at hi)) hrel
end
end Go.Lm
