/- The program's order of all rules: the main loop. -/
import Derived.Test.YtefkkflmiabfeaaGreatDoorLmQ10
set_option linter.unusedVariables false
set_option linter.unusedSimpArgs false
set_option maxRecDepth 100000
namespace Go.Lm
section
variable {R : Type}
theorem IntsObj.congr {S : List LV} {id n : Nat} {g g' : Nat → Int} (h : IntsObj S id n g) (hg : ∀ i, i < n → g i = g' i) : IntsObj S id n g' := by
  unfold IntsObj at h ⊢
  rw [h]
  congr 1
  exact List.map_congr_left fun i hi => by rw [hg i (List.mem_range.1 hi)]
abbrev OmT := Unit × (Nat × Nat × Nat) × (Nat × Nat × Nat) × Int × (Nat × Nat × Nat) × LL × Unit
theorem on_b4 {k : Nat} (hk : Many k) (n : Nat) (ul : List Nat) (hul : ul.length ≤ 500) (hnd : ul.Nodup) (hlt : ∀ u ∈ ul, u < n) (li : Nat) (ui : Nat × Nat × Nat) (many : Int) (di : Nat × Nat × Nat) (out : LL) (g : Nat → Int) (hg : ∀ i, -1000 ≤ g i ∧ g i ≤ 1000) (S : List LV) (hS : IntsObj S li n g) :
    ∃ S', (IntsObj S' li n (fun i => g i - cond (ul.contains i) 1 0) ∧ Keeps S S' [li]) ∧
      ∀ J : OmT → List LV → Option R, rounds (G.steps_plan_order_nils.b4 k J) k ((), (li, 0, n), ui, many, di, out, ints ul, (ul.length : Int), 0, ()) S = J ((), (li, 0, n), ui, many, di, out, ()) S' := by
  have hk' := hk
  unfold Many at hk'
  have hl := loop_all (R := R) (b := fun J => G.steps_plan_order_nils.b4 k J) (x := fun t => ((), (li, 0, n), ui, many, di, out, ints ul, (ul.length : Int), (t : Int), ())) (n := ul.length)
    (Inv := fun t S1 => IntsObj S1 li n (fun i => g i - cond ((ul.take t).contains i) 1 0) ∧ Keeps S S1 [li])
    (out := fun (J : OmT → List LV → Option R) S' => J ((), (li, 0, n), ui, many, di, out, ()) S')
    (fun t S1 ht hI => ?_) (fun J rec S1 hI => ?_) k (by omega) S ⟨hS.congr (fun i _ => by simp), Keeps.refl _ _⟩
  · obtain ⟨S', ⟨h1, h2⟩, h3⟩ := hl
    rw [List.take_length] at h1
    exact ⟨S', ⟨h1, h2⟩, h3⟩
  · obtain ⟨h1, h2⟩ := hI
    have hu : ul.getD t 0 < n := hlt _ (nat_mem _ t ht)
    have hg1 := hg (ul.getD t 0)
    have h0 : g (ul.getD t 0) - cond ((ul.take t).contains (ul.getD t 0)) 1 0 = g (ul.getD t 0) := by
      rw [nodup_take hnd t ht, cond_false, Int.sub_zero]
    refine ⟨S1.set li (intsO n (updF (fun i => g i - cond ((ul.take t).contains i) 1 0) (ul.getD t 0) (g (ul.getD t 0) - 1))), ⟨?_, h2.trans (Keeps.set _ _ _)⟩, fun J rec => ?_⟩
    · refine (IntsObj.of _ _ _ _ (lt_get h1 (by simp))).congr fun i _ => ?_
      unfold updF
      rw [take_contains _ t ht]
      by_cases e : i = ul.getD t 0
      · subst e; simp
      · have e0 : (i == ul.getD t 0) = false := by simpa using e
        rw [e0, Bool.or_false]; rfl
    · unfold G.steps_plan_order_nils.b4
      dsimp only
      rw [lt_nat, ifB_pos ht, idxL_nat (by rw [ints_len]; exact ht), ints_get _ t ht, leaf_int, idxN_nat hu, IntsObj.ld h1 hu, h0, idxN_nat hu]
      refine (IntsObj.st h1 hu _ _).trans ?_
      rw [wrap_id (n := g (ul.getD t 0) - 1) (by omega) (by omega), wrap_succ (by omega)]
  · unfold G.steps_plan_order_nils.b4
    dsimp only
    rw [lt_nat, ifB_neg (Nat.lt_irrefl _)]
theorem scan_find {β : Type} (p : Nat → Bool) (f : Nat → β) (n : Nat) : ∀ d i, i + d = n → scan (fun j => cond (p j) (some (f j)) none) (f n) d i = f (((List.range' i d).find? p).getD n)
  | 0, i, h => rfl
  | d + 1, i, h => by
    simp only [scan, List.range'_succ, List.find?_cons]
    cases p i with
    | true => rfl
    | false => exact scan_find p f n d (i + 1) (by omega)
def readyP (g : Nat → Int) (d : List Bool) (i : Nat) : Bool := !(d.getD i false) && decide (g i ≤ 0)
theorem on_b3 {k : Nat} (hk : Many k) (n : Nat) (hn : n ≤ 500) (li di : Nat) (ui : Nat × Nat × Nat) (many : Int) (out : LL) (g : Nat → Int) (d : List Bool) (hd : d.length = n) (S : List LV) (hS : IntsObj S li n g) (hB : BoolsAt S di d) (J : Unit × (Nat × Nat × Nat) × (Nat × Nat × Nat) × Int × (Nat × Nat × Nat) × LL × Int × Unit → List LV → Option R) :
    rounds (G.steps_plan_order_nils.b3 k J) k ((), (li, 0, n), ui, many, (di, 0, n), out, 0, ()) S = J ((), (li, 0, n), ui, many, (di, 0, n), out, ((((List.range n).find? (readyP g d)).getD n : Nat) : Int), ()) S := by
  unfold Many at hk
  refine (rounds_scan0 (fun t => ((), (li, 0, n), ui, many, (di, 0, n), out, (t : Int), ())) S n k (fun t => cond (readyP g d t) (some (J ((), (li, 0, n), ui, many, (di, 0, n), out, (t : Int), ()) S)) none) (J ((), (li, 0, n), ui, many, (di, 0, n), out, (n : Int), ()) S) (fun rec t ht => ?_) (fun rec => ?_) (by omega)).trans ?_
  · unfold G.steps_plan_order_nils.b3 G.steps_plan_order_nils.q7
    dsimp only
    rw [lt_nat, ifB_pos ht, idxN_nat ht, BoolsAt.ld hB (by omega)]
    unfold readyP
    cases d.getD t false with
    | true =>
      rw [ifB_true, wrap_succ (by omega)]; rfl
    | false =>
      rw [ifB_false, idxN_nat ht, IntsObj.ld hS ht]
      by_cases hg : g t > 0
      · rw [decide_eq_true hg, ifB_true, wrap_succ (by omega), decide_eq_false (by omega : ¬ g t ≤ 0)]; rfl
      · rw [decide_eq_false hg, ifB_false, decide_eq_true (by omega : g t ≤ 0), show (!(true == true)) = false from rfl, ifB_false]; rfl
  · unfold G.steps_plan_order_nils.b3
    dsimp only
    rw [lt_nat, ifB_neg (Nat.lt_irrefl _)]
  · rw [scan_find (readyP g d) (fun t => J ((), (li, 0, n), ui, many, (di, 0, n), out, (t : Int), ()) S) n n 0 (by omega), ← List.range_eq_range']
/-- How many needs are not done. -/
def leftD (D : List (List Nat)) (d : List Bool) (i : Nat) : Int := (((D.getD i []).filter fun x => !(d.getD x false)).length : Nat)
theorem ready_good (D : List (List Nat)) (d : List Bool) (i : Nat) (hi : i < D.length) : readyP (leftD D d) d i = goodAt D (List.replicate D.length true) d i := by
  unfold readyP goodAt
  rw [allTrue _ _ hi, Bool.true_and]
  congr 1
  unfold leftD rdyS
  rw [Bool.eq_iff_iff, decide_eq_true_iff, List.all_eq_true]
  constructor
  · intro h x hx
    have h0 : (D.getD i []).filter (fun x => !(d.getD x false)) = [] := List.eq_nil_of_length_eq_zero (by omega)
    rw [List.filter_eq_nil_iff] at h0
    have := h0 x hx
    simpa using this
  · intro h
    have h0 : (D.getD i []).filter (fun x => !(d.getD x false)) = [] := List.filter_eq_nil_iff.2 fun x hx => by rw [h x hx]; decide
    rw [h0]; simp
theorem filter_done (d : List Bool) (k : Nat) (hk : k < d.length) (hd : d.getD k false = false) : ∀ (r : List Nat), r.Nodup → (r.filter fun x => !((d.set k true).getD x false)).length + cond (r.contains k) 1 0 = (r.filter fun x => !(d.getD x false)).length
  | [], _ => rfl
  | a :: r, h => by
    have hn := List.nodup_cons.1 h
    have ih := filter_done d k hk hd r hn.2
    by_cases e : a = k
    · subst e
      have hc : r.contains a = false := by simpa using hn.1
      rw [hc] at ih
      have e1 : (d.set a true).getD a false = true := by simp [List.getD_eq_getElem?_getD, hk]
      simp only [List.filter_cons, e1, hd, List.contains_cons, beq_self_eq_true, Bool.true_or, cond_true, Bool.not_true, Bool.not_false]
      simp only [cond_false] at ih
      simp only [if_true, List.length_cons, Bool.false_eq_true, if_false]
      omega
    · have e1 : (d.set k true).getD a false = d.getD a false := by
        simp only [List.getD_eq_getElem?_getD, List.getElem?_set_ne (Ne.symm e)]
      have e2 : (k == a) = false := by simp; omega
      simp only [List.filter_cons, e1, List.contains_cons, e2, Bool.false_or]
      cases d.getD a false
      · simp only [Bool.not_false, if_true, List.length_cons]; omega
      · simp only [Bool.not_true, Bool.false_eq_true, if_false]; exact ih
theorem users_contains (D : List (List Nat)) (i k : Nat) (hi : i < D.length) : (usersTo D (List.replicate D.length true) D.length k).contains i = (D.getD i []).contains k := by
  unfold usersTo
  rw [Bool.eq_iff_iff, List.contains_iff_mem, List.mem_filter, List.mem_range, allTrue _ _ hi, Bool.true_and]
  exact ⟨fun h => h.2, fun h => ⟨hi, h⟩⟩
theorem left_done (D : List (List Nat)) (hD : Rows D) (d : List Bool) (k : Nat) (hk : k < d.length) (hd : d.getD k false = false) (i : Nat) (hi : i < D.length) :
    leftD D d i - cond ((usersTo D (List.replicate D.length true) D.length k).contains i) 1 0 = leftD D (d.set k true) i := by
  have h := filter_done d k hk hd (D.getD i []) (hD.get i hi)
  rw [users_contains D i k hi]
  unfold leftD
  rw [← h]
  cases (D.getD i []).contains k <;> simp
theorem leftD_le (D : List (List Nat)) (hD : Rows D) (d : List Bool) (i : Nat) : -1000 ≤ leftD D d i ∧ leftD D d i ≤ 1000 := by
  unfold leftD
  have h := List.length_filter_le (fun x => !(d.getD x false)) (D.getD i [])
  have h2 : (D.getD i []).length ≤ 500 := by
    rcases Nat.lt_or_ge i D.length with hi | hi
    · exact (hD.small.get i hi).1
    · rw [List.getD_eq_getElem?_getD, List.getElem?_eq_none hi]; simp
  constructor <;> omega
end
end Go.Lm

/- The program's order of all rules. -/
set_option maxRecDepth 100000
namespace Go.Lm
section
variable {R : Type}
theorem find_congr {p q : Nat → Bool} : ∀ (l : List Nat), (∀ x ∈ l, p x = q x) → l.find? p = l.find? q
  | [], _ => rfl
  | a :: l, h => by
    rw [List.find?_cons, List.find?_cons, h a (by simp), find_congr l fun x hx => h x (by simp [hx])]
theorem all_done {d : List Bool} (h : d.count false = 0) (i : Nat) (hi : i < d.length) : d.getD i false = true := by
  have := List.count_eq_zero.1 h
  rw [List.getD_eq_getElem?_getD, List.getElem?_eq_getElem hi, Option.getD_some]
  cases hb : d[i] with
  | true => rfl
  | false => exact absurd (hb ▸ List.getElem_mem hi) this
theorem some_left {d : List Bool} (h : 0 < d.count false) : ∃ i, i < d.length ∧ d.getD i false = false := by
  have := List.count_pos_iff.1 h
  obtain ⟨i, hi, e⟩ := List.mem_iff_getElem.1 this
  exact ⟨i, hi, by rw [List.getD_eq_getElem?_getD, List.getElem?_eq_getElem hi, Option.getD_some, e]⟩
theorem on_b2 {k : Nat} (hk : Many k) (D : List (List Nat)) (hD : Rows D) (li ui di : Nat) (h1 : li ≠ ui) (h2 : li ≠ di) (h3 : ui ≠ di) :
    ∀ (f : Nat) (d : List Bool) (out : List Nat) (fuel : Nat) (S : List LV), d.length = D.length → d.count false < f → out.length + d.count false = D.length → f ≤ fuel →
      IntsObj S li D.length (leftD D d) → RowsObj S ui D.length (usersTo D (List.replicate D.length true) D.length) → BoolsAt S di d →
      ∃ S', Keeps S S' [li, di] ∧ ∀ q : (LL × Unit → List LV → Option R) × (LL × Bool × Unit → List LV → Option R),
        rounds (G.steps_plan_order_nils.b2 k q.1 q.2) fuel ((), (li, 0, D.length), (ui, 0, D.length), (D.length : Int), (di, 0, D.length), ints out, ()) S =
          cond (ordS D (List.replicate D.length true) f d out).2 (q.1 (ints (ordS D (List.replicate D.length true) f d out).1, ()) S') (q.2 ([], false, ()) S')
  | 0, d, out, fuel, S, hd, hf, ho, hfu, hL, hU, hB => absurd hf (by omega)
  | f + 1, d, out, fuel, S, hd, hf, ho, hfu, hL, hU, hB => by
    obtain ⟨m, rfl⟩ : ∃ m, fuel = m + 1 := ⟨fuel - 1, by omega⟩
    have hlen := hD.small.1
    have hnx : (List.range D.length).find? (readyP (leftD D d) d) = nextS D (List.replicate D.length true) d := by
      unfold nextS
      exact find_congr _ fun x hx => ready_good D d x (List.mem_range.1 hx)
    have hb3 := fun J => on_b3 (R := R) hk D.length hlen li di (ui, 0, D.length) (D.length : Int) (ints out) (leftD D d) d hd S hL hB J
    rw [hnx] at hb3
    unfold ordS
    rcases Nat.eq_zero_or_pos (d.count false) with hc | hc
    · have hn : nextS D (List.replicate D.length true) d = none := by
        unfold nextS
        rw [List.find?_eq_none]
        intro x hx
        unfold goodAt
        rw [all_done hc x (by rw [hd]; exact List.mem_range.1 hx)]
        simp
      have hl : (List.range D.length).any (leftAt (List.replicate D.length true) d) = false := by
        rw [List.any_eq_false]
        intro x hx
        unfold leftAt
        rw [all_done hc x (by rw [hd]; exact List.mem_range.1 hx)]
        simp
      rw [hn, hl]
      refine ⟨S, Keeps.refl _ _, fun q => ?_⟩
      rw [rounds_succ]
      unfold G.steps_plan_order_nils.b2
      dsimp only
      rw [ints_len, lt_nat, ifB_neg (by omega)]
      rfl
    · have hlt : out.length < D.length := by omega
      cases hn : nextS D (List.replicate D.length true) d with
      | none =>
        have hl : (List.range D.length).any (leftAt (List.replicate D.length true) d) = true := by
          obtain ⟨i, hi, e⟩ := some_left hc
          rw [hd] at hi
          rw [List.any_eq_true]
          refine ⟨i, List.mem_range.2 hi, ?_⟩
          unfold leftAt
          rw [e, allTrue _ _ hi]; rfl
        rw [hl]
        rw [hn] at hb3
        refine ⟨S, Keeps.refl _ _, fun q => ?_⟩
        rw [rounds_succ]
        unfold G.steps_plan_order_nils.b2
        dsimp only
        rw [ints_len, lt_nat, ifB_pos hlt]
        refine (hb3 _).trans ?_
        dsimp only [Option.getD_none]
        rw [show ((D.length : Int) == (D.length : Int)) = true from beq_self_eq_true _, ifB_true]
        rfl
      | some i =>
        obtain ⟨hil, hg⟩ := nextS_some hn
        have hdf : d.getD i false = false := by
          unfold goodAt at hg
          simp only [Bool.and_eq_true, Bool.not_eq_true'] at hg
          exact hg.1.2
        have hcs := count_set (d := d) (by omega) hdf
        rw [hn] at hb3
        let S1 := S.set di (.obj 4 (bools (d.set i true)))
        have hK1 : Keeps S S1 [di] := Keeps.set _ _ _
        have hL1 : IntsObj S1 li D.length (leftD D d) := hK1.get hL (by simp) (by simp; exact h2)
        have hU1 : RowsObj S1 ui D.length (usersTo D (List.replicate D.length true) D.length) := hK1.get hU (by simp) (by simp; exact h3)
        have hB1 : BoolsAt S1 di (d.set i true) := hB.set _
        have hul := usersTo_len D (List.replicate D.length true) D.length i
        have hlu : ∀ u ∈ usersTo D (List.replicate D.length true) D.length i, u < D.length := fun u hu => List.mem_range.1 (List.mem_filter.1 hu).1
        obtain ⟨S2, ⟨hL2, hK2⟩, hb4⟩ := on_b4 (R := R) hk D.length (usersTo D (List.replicate D.length true) D.length i) (by omega) (List.nodup_range.sublist List.filter_sublist) hlu li (ui, 0, D.length) (D.length : Int) (di, 0, D.length) (ints (out ++ [i])) (leftD D d) (fun j => leftD_le D hD d j) S1 hL1
        have hL3 : IntsObj S2 li D.length (leftD D (d.set i true)) := hL2.congr fun j hj => left_done D hD d i (by omega) hdf j hj
        have hU2 : RowsObj S2 ui D.length (usersTo D (List.replicate D.length true) D.length) := hK2.get hU1 (by simp) (by simp; exact Ne.symm h1)
        have hB2 : BoolsAt S2 di (d.set i true) := hK2.get hB1 (by simp) (by simp; exact Ne.symm h2)
        obtain ⟨S3, hK3, hr⟩ := on_b2 hk D hD li ui di h1 h2 h3 f (d.set i true) (out ++ [i]) m S2 (by simp [hd]) (by omega) (by simp; omega) (by omega) hL3 hU2 hB2
        refine ⟨S3, ((hK1.weak (fun m hm => by simp at hm; simp [hm])).trans (hK2.weak (fun m hm => by simp at hm; simp [hm]))).trans hK3, fun q => ?_⟩
        rw [rounds_succ]
        unfold G.steps_plan_order_nils.b2
        dsimp only
        rw [ints_len, lt_nat, ifB_pos hlt]
        refine (hb3 _).trans ?_
        dsimp only [Option.getD_some]
        rw [show ((i : Int) == (D.length : Int)) = false by simp; omega, ifB_false, idxN_nat hil, hB.st (by omega), app_one (by rw [ints_len]; omega) (by rw [ints_len]; omega), ints_snoc, idxN_nat hil]
        refine (RowsObj.ld hU1 hil _).trans ?_
        rw [ints_len]
        refine (hb4 _).trans ?_
        exact hr q
end
end Go.Lm

/- The program's order of all rules: the whole function. -/
set_option maxRecDepth 100000
namespace Go.Lm
section
variable {R : Type}
theorem plan_l (l : List LV) (id : Nat) (deps : LV) (K : List LV → Option R) : ldSl 8 [.sl 8 l, .map id, deps] (0 + 0) K = K l := asSl_sl 8 _ K
theorem plan_deps (l : List LV) (id : Nat) (D : List (List Nat)) (K : List LV → Option R) : ldSl 1 [.sl 8 l, .map id, depsV D] (0 + 2) K = K (D.map rowS) := by
  cases D with
  | nil => rfl
  | cons a D => exact asSl_sl 1 _ K
theorem left_zero (D : List (List Nat)) (n i : Nat) (hi : i < D.length) : leftTo D (List.replicate D.length true) D.length i = leftD D (List.replicate n false) i := by
  unfold leftTo leftD
  rw [decide_eq_true hi, allTrue _ _ hi]
  have e : (D.getD i []).filter (fun x => !((List.replicate n false).getD x false)) = D.getD i [] := List.filter_eq_self.2 fun x _ => by
    rcases Nat.lt_or_ge x n with h | h
    · simp [List.getD_eq_getElem?_getD, h]
    · simp [List.getD_eq_getElem?_getD, List.getElem?_eq_none (show (List.replicate n false).length ≤ x by simpa using h)]
  rw [e]; rfl
theorem order_all {k : Nat} (hk : Many k) (l : List Rule) (id : Nat) (f : ByteArray → Option Nat) (D : List (List Nat)) (hD : Rows D) (hl : D.length = l.length) (S : List LV) (hP : PlanAt S id l f (depsV D)) :
    ∃ S', Keeps S S' [] ∧ ∀ K : LL × Bool × Unit → List LV → Option R, G.steps_plan_order_nils.fn k ((id + 1, 0), (), ()) S K =
      cond (orderedS D (List.replicate D.length true)).2 (K (ints (orderedS D (List.replicate D.length true)).1, true, ()) S') (K ([], false, ()) S') := by
  have hk' := hk
  unfold Many at hk'
  have h500 := hD.small.1
  have hid := lt_get hP.plan (by simp)
  let S1 := S ++ [intsO D.length (fun _ => 0)]
  let S2 := S1 ++ [rowsO D.length (fun _ => [])]
  have hK1 : Keeps S S1 [] := Keeps.app _ _ _
  have hK2 : Keeps S1 S2 [] := Keeps.app _ _ _
  have hl1 : S1.length = S.length + 1 := by simp [S1]
  have hl2 : S2.length = S.length + 2 := by simp [S2, hl1]
  have hL : IntsObj S2 S.length D.length (leftTo D (List.replicate D.length true) 0) := by
    have h : IntsObj S2 S.length D.length (fun _ => 0) := get_app _ (get_end _ _) (by simp [intsO])
    exact h.congr fun i _ => by simp [leftTo]
  have hU : RowsObj S2 S1.length D.length (usersTo D (List.replicate D.length true) 0) := by
    have h : RowsObj S2 S1.length D.length (fun _ => []) := get_end _ _
    exact h
  obtain ⟨S3, ⟨hL3, hU3, hK3⟩, hb0⟩ := on_b0 (R := R) hk D hD (id + 1, 0) S.length S1.length (by omega) S2 hL hU
  let S4 := S3 ++ [.obj 4 (bools (List.replicate D.length false))]
  have hK4 : Keeps S3 S4 [] := Keeps.app _ _ _
  have hl3 := hK3.1
  obtain ⟨S5, hK5, hb2⟩ := on_b2 (R := R) hk D hD S.length S1.length S3.length (by omega) (by omega) (by omega) (D.length + 1) (List.replicate D.length false) [] k S4 (by simp) (by simp [List.count_replicate]) (by simp [List.count_replicate]) (by omega)
    ((show IntsObj S4 _ _ _ from hK4.get hL3 (by simp) (by simp)).congr fun i hi => left_zero D D.length i hi) (hK4.get hU3 (by simp) (by simp)) (by unfold BoolsAt; exact get_end _ _)
  have hK : Keeps S S5 [] := by
    refine Keeps.weak (M := [S.length, S1.length, S3.length]) ?_ (fun m hm => by simp at hm; omega)
    exact (hK1.weak (fun m hm => by simp at hm)).trans ((hK2.weak (fun m hm => by simp at hm)).trans ((hK3.weak (fun m hm => .inl (by simp at hm ⊢; omega))).trans ((hK4.weak (fun m hm => by simp at hm)).trans (hK5.weak (fun m hm => .inl (by simp at hm ⊢; omega))))))
  have hp1 : S1.getD (id + 1) .any = .obj 66 [.sl 8 (l.map Rule.lv), .map id, depsV D] := hK1.get hP.plan (by simp) (by simp)
  have hp2 : S2.getD (id + 1) .any = .obj 66 [.sl 8 (l.map Rule.lv), .map id, depsV D] := hK2.get hp1 (by simp) (by simp)
  have hp3 : S3.getD (id + 1) .any = .obj 66 [.sl 8 (l.map Rule.lv), .map id, depsV D] := hK3.get hp2 (by simp) (by simp; omega)
  refine ⟨S5, hK, fun K => ?_⟩
  unfold G.steps_plan_order_nils.fn
  dsimp only
  rw [at_of hP.plan, plan_l, List.length_map, ← hl, ifB_pos rfl, mkN_nat (by omega) _ (by omega)]
  unfold newObj
  have e1 : LV.obj 3 (zeros D.length [.int .i64 0]) = intsO D.length (fun _ => 0) := by
    rw [zeros_nil]
    unfold intsO
    congr 1
    rw [List.map_const']
    simp
  have e2 : LV.obj 45 (zeros D.length [.nilsl]) = rowsO D.length (fun _ => []) := by
    rw [zeros_nil]
    unfold rowsO
    congr 1
    show _ = (List.range D.length).map fun _ => LV.nilsl
    rw [List.map_const']
    simp
  rw [e1, show S ++ [intsO D.length (fun _ => 0)] = S1 from rfl]
  dsimp only
  rw [at_of hp1, plan_l, List.length_map, ← hl, ifB_pos rfl, mkN_nat (by omega) _ (by omega), e2, show S1 ++ [rowsO D.length (fun _ => [])] = S2 from rfl, at_of hp2, plan_deps, List.length_map]
  refine (hb0 _).trans ?_
  dsimp only
  rw [at_of hp3, plan_l, List.length_map, ← hl, ifB_pos rfl, mkN_nat (by omega) _ (by omega), zeros_bool, show S3 ++ [LV.obj 4 (bools (List.replicate D.length false))] = S4 from rfl]
  exact hb2 (_, _)
end
end Go.Lm

/- The program: open. -/
set_option maxRecDepth 100000
namespace Go.Lm
section
variable {R : Type}
theorem scanE_all {e : Nat → Option Int} {n : Nat} (h : scanE e n 0 = none) : ∀ j, j < n → e j = none := fun j hj => firstE_none n 0 h j (Nat.zero_le _) (by omega)
theorem scanE_pos {e : Nat → Option Int} (hp : ∀ j r, e j = some r → r ≠ 0) {n : Nat} {r : Int} (h : scanE e n 0 = some r) : r ≠ 0 := firstE_some (P := fun r => r ≠ 0) hp n 0 r h
/-- An output has one rule. -/
def Single (l : List Rule) : Prop := ∀ i, i < l.length → ∀ p ∈ (l.getD i .zero).act.outs, outsIn (l.take i) p = false
theorem single_of {l : List Rule} (h : allOutE l = none) : Single l := fun i hi p hp => by
  have h1 := scanE_all h i hi
  obtain ⟨j, hj, e⟩ := List.mem_iff_getElem.1 hp
  have h2 := scanE_all h1 j hj
  have e2 : outAt l i j = p := by
    unfold outAt
    rw [List.getD_eq_getElem?_getD (l := (l.getD i .zero).act.outs), List.getElem?_eq_getElem hj]; exact e
  rw [e2] at h2
  unfold outE at h2
  cases ho : outsIn (l.take i) p with
  | false => rfl
  | true => rw [ho] at h2; cases h2
theorem outsIn_mem {l : List Rule} {i k : Nat} (hk : k < i) (hi : i ≤ l.length) {p : ByteArray} (hp : p ∈ (l.getD k .zero).act.outs) : outsIn (l.take i) p = true := by
  unfold outsIn
  rw [List.any_eq_true]
  refine ⟨l.getD k .zero, ?_, (isIn_iff _ _).2 hp⟩
  have hkl : k < l.length := by omega
  rw [List.getD_eq_getElem?_getD, List.getElem?_eq_getElem hkl]
  exact List.mem_iff_getElem.2 ⟨k, by rw [List.length_take]; omega, by simp⟩
theorem ofN_iff {l : List Rule} (hs : Single l) (p : ByteArray) (k : Nat) : ∀ i, i ≤ l.length → (ofN l i p = some k ↔ k < i ∧ p ∈ (l.getD k .zero).act.outs)
  | 0, _ => ⟨fun h => (by cases h), fun h => absurd h.1 (by omega)⟩
  | i + 1, hi => by
    have ih := ofN_iff hs p k i (by omega)
    show cond (isIn (l.getD i .zero).act.outs p) (some i) (ofN l i p) = some k ↔ _
    cases hb : isIn (l.getD i .zero).act.outs p with
    | true =>
      have hm := (isIn_iff _ _).1 hb
      rw [cond_true]
      constructor
      · intro h; cases h; exact ⟨by omega, hm⟩
      · rintro ⟨h1, h2⟩
        rcases Nat.lt_or_ge k i with h3 | h3
        · have := hs i (by omega) p hm
          rw [outsIn_mem h3 (by omega) h2] at this; cases this
        · have : k = i := by omega
          rw [this]
    | false =>
      rw [cond_false, ih]
      constructor
      · exact fun h => ⟨by omega, h.2⟩
      · rintro ⟨h1, h2⟩
        refine ⟨?_, h2⟩
        rcases Nat.lt_or_ge k i with h3 | h3
        · exact h3
        · have : k = i := by omega
          subst this
          rw [(isIn_iff _ _).2 h2] at hb; cases hb
theorem deps_needs {l : List Rule} (hs : Single l) : depsTo l l.length = needsAll l := by
  unfold depsTo needsAll
  apply List.map_congr_left
  intro i _
  unfold depsOf needsS needsTo
  apply List.filter_congr
  intro k hk
  have hk := List.mem_range.1 hk
  unfold usesP usesS
  rw [Bool.eq_iff_iff, List.any_eq_true, List.any_eq_true]
  constructor
  · rintro ⟨p, hp, h⟩
    have := (ofN_iff hs p k l.length (Nat.le_refl _)).1 (of_decide_eq_true h)
    exact ⟨p, this.2, (isIn_iff _ _).2 hp⟩
  · rintro ⟨q, hq, h⟩
    exact ⟨q, (isIn_iff _ _).1 h, decide_eq_true ((ofN_iff hs q k l.length (Nat.le_refl _)).2 ⟨hk, hq⟩)⟩
theorem needs_rows (l : List Rule) (hn : l.length ≤ 500) : Rows (needsAll l) := by
  refine ⟨needs_small l hn, fun r hr => ?_⟩
  obtain ⟨i, hi, rfl⟩ := List.mem_map.1 hr
  exact List.nodup_range.sublist List.filter_sublist
theorem nameE_pos (l : List Rule) (j : Nat) (r : Int) (h : nameE l j = some r) : r ≠ 0 := by
  unfold nameE at h
  cases h1 : ruleS (l.getD j .zero) == 0 with
  | false => rw [h1] at h; cases h; exact fun e => by rw [e] at h1; cases h1
  | true =>
    rw [h1] at h
    generalize (decide (0 < j) && (strLt (ruleName l j) (ruleName l (j - 1)) || strEq (ruleName l j) (ruleName l (j - 1)))) = b at h
    cases b
    · cases h
    · cases h; decide
theorem allOut_pos (l : List Rule) (e : Int) (h : allOutE l = some e) : e ≠ 0 :=
  scanE_pos (fun i r hi => scanE_pos (fun j r hj => outE_pos l i _ r hj) hi) h
theorem ne_beq {e : Int} (h : e ≠ 0) : (e == 0) = false := by simpa using h
theorem prog_open {k : Nat} (hk : Many k) (l : List Rule) (ok : RulesOk l) (S : List LV) :
    ∃ S', Keeps S S' [] ∧ (checkRulesS l = 0 → PlanAt S' S.length l (ofN l l.length) (depsV (needsAll l))) ∧ ∀ K : LV × Int × Unit → List LV → Option R, G.steps_open.fn k (l.map Rule.lv, ()) S K =
      cond (checkRulesS l == 0) (K (.ptr (S.length + 1) 0, 0, ()) S') (K (.nilp, checkRulesS l, ()) S') := by
  unfold G.steps_open.fn checkRulesS
  dsimp only
  simp only [List.length_map]
  rw [show decide ((l.length : Int) > 500) = decide (l.length > 500) from gt_nat l.length 500]
  by_cases h : l.length > 500
  · rw [decide_eq_true h]
    exact ⟨S, Keeps.refl _ _, fun h => (by cases h), fun K => rfl⟩
  · have hn : l.length ≤ 500 := by omega
    rw [decide_eq_false h]
    simp only [ifB_false, cond_false, op_b0 hk l ok hn]
    cases hnm : firstE (nameE l) l.length with
    | some e =>
      have he : e ≠ 0 := scanE_pos (e := nameE l) (nameE_pos l) hnm
      simp only [Option.map_some, Option.getD_some]
      rw [ne_beq he]
      exact ⟨S, Keeps.refl _ _, fun h => absurd h he, fun K => rfl⟩
    | none =>
      simp only [Option.map_none, Option.getD_none]
      have hr := rules_right hnm
      have fit := rules_fit hn hr
      let S1 := S ++ [.mp .str []] ++ [.obj 66 [.sl 8 (l.map Rule.lv), .map S.length, .nilsl]]
      have hS1 : S1.length = S.length + 2 := by simp [S1]
      have hK1 : Keeps S S1 [] := (Keeps.app _ _ _).trans (Keeps.app _ _ _)
      have hP1 : PlanAt S1 S.length l (ofN l 0) .nilsl := by
        refine ⟨⟨[], get_app _ (get_end _ _) (by simp), fun e he => by simp at he, fun p => rfl⟩, ?_⟩
        simp [S1]
      obtain ⟨S2, ids, ⟨hA, hT, hK2, hids⟩, h2⟩ := prog_tangleOf (R := R) hk l hn (fun r hr' => (hr r hr').fit) S1
      obtain ⟨S3, hE, hOk, h3⟩ := op_b1 (R := R) hk l fit S.length ids (fun x hx => by have := hids x hx; omega) S2 (hP1.keeps hK2 (by simp) (by simp)) hT
      have e0 : (S ++ [LV.mp .str []]).length = S.length + 1 := by simp
      have hstart : ∀ (K : LV × Int × Unit → List LV → Option R) (J : List LV × (Nat × Nat) × Unit → List LV → Option R), (newObj S (.mp .str []) fun i15 S => newObj S (.obj 66 [.sl 8 (l.map Rule.lv), .map i15, .nilsl]) fun i16 S => G.steps_tangleOf.fn k (l.map Rule.lv, ()) S fun r17 S => rounds (G.steps_open.b1 k J (fun o72 S => K (o72.1, o72.2.1, ()) S)) k (l.map Rule.lv, (i16, 0), (r17.1.1, r17.1.2.1, r17.1.2.2.1, r17.1.2.2.2.1, ()), l.map Rule.lv, ((l.map Rule.lv).length : Int), 0, ()) S) =
          (match allOutE l with | some e => K (.nilp, e, ()) S3 | none => J (l.map Rule.lv, (S.length + 1, 0), ()) S3) := fun K J => by
        unfold newObj
        dsimp only
        rw [e0]
        refine (h2 _).trans ?_
        dsimp only
        rw [List.length_map]
        exact h3 (J, fun o72 S => K (o72.1, o72.2.1, ()) S)
      cases ho : allOutE l with
      | some e =>
        have he := allOut_pos l e ho
        simp only [Option.getD_some]
        rw [ne_beq he]
        refine ⟨S3, Keeps.weak (M := [S.length]) ?_ (fun m hm => by simp at hm; omega), fun h => absurd h he, fun K => ?_⟩
        · exact (hK1.weak (fun m hm => by simp at hm)).trans ((hK2.weak (fun m hm => by simp at hm)).trans (hE e ho))
        · refine (hstart K _).trans ?_
          rw [ho]; rfl
      | none =>
        obtain ⟨hP3, hK3⟩ := hOk ho
        have hsg := single_of ho
        obtain ⟨S4, ⟨hP4, hK4⟩, h4⟩ := op_b3 (R := R) hk l fit S.length S3 hP3
        rw [deps_needs hsg] at hP4
        obtain ⟨S5, hK5, h5⟩ := order_all (R := R) hk l S.length (ofN l l.length) (needsAll l) (needs_rows l hn) (needsAll_len l) S4 hP4
        rw [needsAll_len] at h5
        refine ⟨S5, Keeps.weak (M := [S.length, S.length + 1]) ?_ (fun m hm => by simp at hm; omega), fun _ => hP4.keeps hK5 (by simp) (by simp), fun K => ?_⟩
        · exact (hK1.weak (fun m hm => by simp at hm)).trans ((hK2.weak (fun m hm => by simp at hm)).trans ((hK3.weak (fun m hm => .inl (by simp at hm ⊢; omega))).trans ((hK4.weak (fun m hm => .inl (by simp at hm ⊢; omega))).trans (hK5.weak (fun m hm => by simp at hm)))))
        · refine (hstart K _).trans ?_
          rw [ho]
          dsimp only
          rw [List.length_map]
          refine (h4 _).trans ?_
          dsimp only
          refine (h5 _).trans ?_
          simp only [Option.getD_none]
          unfold loopS
          cases (orderedS (needsAll l) (List.replicate l.length true)).2 <;> rfl
end
end Go.Lm

/- CheckRules and Edges, both ways. -/
set_option maxRecDepth 100000
namespace Go.Lm
section
variable {R : Type}
theorem prog_CheckRules {k : Nat} (hk : Many k) (l : List Rule) (ok : RulesOk l) (S : List LV) (K : Int × Unit → List LV → Option R) : G.steps_CheckRules.fn k (l.map Rule.lv, ()) S K = K (checkRulesS l, ()) S := by
  obtain ⟨S', hK, _, h⟩ := prog_open (R := LV × List LV) hk l ok S
  obtain ⟨G', hG⟩ := hK.grown
  unfold G.steps_CheckRules.fn
  refine popK_at (rs := G.steps_CheckRules.rs) (r := ((checkRulesS l, ()) : Int × Unit)) (G := G') ?_ rfl
  unfold G.steps_CheckRules.fn0
  refine (h _).trans ?_
  rw [← hG]
  cases hc : checkRulesS l == 0 with
  | true => rw [eq_of_beq hc]; rfl
  | false => rfl
def edgeLV (l : List Rule) (i k : Nat) : LV := .agg [.str (ruleName l i), .str (ruleName l k)]
def rowE (l : List Rule) (i : Nat) : List LV := (needsS l i).map (edgeLV l i)
def accE (l : List Rule) (i : Nat) : List LV := ((List.range i).map (rowE l)).flatten
theorem accE_succ (l : List Rule) (i : Nat) : accE l (i + 1) = accE l i ++ rowE l i := by
  unfold accE
  rw [List.range_succ, List.map_append, List.flatten_append]
  simp
theorem rowE_len (l : List Rule) (i : Nat) : (rowE l i).length ≤ l.length := by
  unfold rowE
  rw [List.length_map]
  exact needsTo_len l i l.length
theorem accE_len (l : List Rule) (hn : l.length ≤ 500) : ∀ i, (accE l i).length ≤ i * 500
  | 0 => by simp [accE]
  | i + 1 => by
    rw [accE_succ, List.length_append]
    have := accE_len l hn i
    have := rowE_len l i
    omega
def edgesS (l : List Rule) : List LV := accE l l.length
theorem needs_lt (l : List Rule) (i j : Nat) (hj : j < (needsS l i).length) : (needsS l i).getD j 0 < l.length := by
  have := nat_mem (needsS l i) j hj
  exact List.mem_range.1 (List.mem_filter.1 this).1
theorem rowE_take (l : List Rule) (i j : Nat) (hj : j < (needsS l i).length) : (rowE l i).take (j + 1) = (rowE l i).take j ++ [edgeLV l i ((needsS l i).getD j 0)] := by
  have h : j < (rowE l i).length := by unfold rowE; rw [List.length_map]; exact hj
  rw [List.take_add_one, List.getElem?_eq_getElem h]
  congr 1
  simp [rowE, List.getD_eq_getElem?_getD, hj]
theorem rowE_all (l : List Rule) (i : Nat) : (rowE l i).take (needsS l i).length = rowE l i := List.take_of_length_le (by unfold rowE; rw [List.length_map]; exact Nat.le_refl _)
theorem name_at (l : List Rule) (i : Nat) (hi : i < l.length) (K : ByteArray → Option R) : (idxL (l.map Rule.lv) (i : Int) fun v => asStr (leaf v 0) K) = K (ruleName l i) := by
  rw [idxL_nat (by simpa using hi), rule_get l i hi]; rfl
theorem pe_b1 {k : Nat} (hk : Many k) (l : List Rule) (hn : l.length ≤ 500) (rows : LL) (nr ii : Int) (i : Nat) (hi : i < l.length) (S : List LV) (J : LL × LL × LL × Int × Int × Unit → List LV → Option R) :
    rounds (G.steps_Edges.b1 k J) k (l.map Rule.lv, accE l i, (i : Int), rows, nr, ii, ints (needsS l i), ((needsS l i).length : Int), 0, ()) S = J (l.map Rule.lv, accE l (i + 1), rows, nr, ii, ()) S := by
  have hk' := hk
  unfold Many at hk'
  have hlen := needsTo_len l i l.length
  have hacc := accE_len l hn i
  have h0 : accE l i = accE l i ++ (rowE l i).take 0 := by simp
  rw [h0]
  refine (rounds_scan0 (fun j => (l.map Rule.lv, accE l i ++ (rowE l i).take j, (i : Int), rows, nr, ii, ints (needsS l i), ((needsS l i).length : Int), (j : Int), ())) S (needsS l i).length k (fun _ => none) (J (l.map Rule.lv, accE l (i + 1), rows, nr, ii, ()) S) (fun rec j hj => ?_) (fun rec => ?_) (by unfold needsS; omega)).trans (scan_none _ _ (fun _ _ _ => rfl))
  · have hjl : j < l.length := by unfold needsS at hj; omega
    have htl : ((rowE l i).take j).length ≤ 500 := by rw [List.length_take]; omega
    unfold G.steps_Edges.b1
    dsimp only
    rw [lt_nat, ifB_pos hj, idxL_nat (by rw [ints_len]; exact hj), ints_get _ j hj, leaf_int, name_at l i hi, name_at l _ (needs_lt l i j hj)]
    rw [app_one (by rw [List.length_append]; omega) (by rw [List.length_append]; omega), List.append_assoc, rowE_take l i j hj, wrap_succ (by omega)]
    rfl
  · unfold G.steps_Edges.b1
    dsimp only
    rw [lt_nat, ifB_neg (Nat.lt_irrefl _), rowE_all, accE_succ]
theorem pe_b0 {k : Nat} (hk : Many k) (l : List Rule) (hn : l.length ≤ 500) (S : List LV) (J : LL × Unit → List LV → Option R) :
    rounds (G.steps_Edges.b0 k J) k (l.map Rule.lv, [], (needsAll l).map rowS, (l.length : Int), 0, ()) S = J (edgesS l, ()) S := by
  have hk' := hk
  unfold Many at hk'
  refine (rounds_scan0 (fun i => (l.map Rule.lv, accE l i, (needsAll l).map rowS, (l.length : Int), (i : Int), ())) S l.length k (fun _ => none) (J (edgesS l, ()) S) (fun rec i hi => ?_) (fun rec => ?_) (by omega)).trans (scan_none _ _ (fun _ _ _ => rfl))
  · unfold G.steps_Edges.b0
    dsimp only
    have hg : (needsAll l).getD i [] = needsS l i := by simp [needsAll, List.getD_eq_getElem?_getD, hi]
    rw [lt_nat, ifB_pos hi, row_at (needsAll l) i (by rw [needsAll_len]; exact hi), hg, ints_len]
    refine (pe_b1 hk l hn _ _ _ i hi S _).trans ?_
    dsimp only
    rw [wrap_succ (by omega)]
  · unfold G.steps_Edges.b0
    dsimp only
    rw [lt_nat, ifB_neg (Nat.lt_irrefl _)]; rfl
theorem edges_noId (n : Nat) (l : List Rule) (hn : 1 ≤ n) : (edgesS l).all (noId n) = true := by
  obtain ⟨n, rfl⟩ : ∃ m, n = m + 1 := ⟨n - 1, by omega⟩
  rw [List.all_eq_true]
  intro x hx
  unfold edgesS accE at hx
  obtain ⟨r, hr, hx⟩ := List.mem_flatten.1 hx
  obtain ⟨i, _, rfl⟩ := List.mem_map.1 hr
  obtain ⟨k, _, rfl⟩ := List.mem_map.1 hx
  show ([LV.str (ruleName l i), .str (ruleName l k)].all (noId n)) = true
  cases n <;> rfl
def edgesR (l : List Rule) : List LV := cond (checkRulesS l == 0) (edgesS l) []
theorem small_of {l : List Rule} (h : checkRulesS l = 0) : l.length ≤ 500 := by
  unfold checkRulesS at h
  cases hd : decide (l.length > 500) with
  | true => rw [hd] at h; cases h
  | false => have := of_decide_eq_false hd; omega
theorem prog_Edges {k : Nat} (hk : Many k) (l : List Rule) (ok : RulesOk l) (S : List LV) (K : LL × Int × Unit → List LV → Option R) : G.steps_Edges.fn k (l.map Rule.lv, ()) S K = K (edgesR l, checkRulesS l, ()) S := by
  obtain ⟨S', hK, hP, h⟩ := prog_open (R := LV × List LV) hk l ok S
  obtain ⟨G', hG⟩ := hK.grown
  unfold G.steps_Edges.fn edgesR
  have hrun : ∀ K : LL × Int × Unit → List LV → Option (LV × List LV), G.steps_Edges.fn0 k (l.map Rule.lv, ()) S K = K (cond (checkRulesS l == 0) (edgesS l) [], checkRulesS l, ()) S' := fun K => by
    unfold G.steps_Edges.fn0
    refine (h _).trans ?_
    cases hc : checkRulesS l == 0 with
    | false =>
      dsimp only [cond]
      rw [ne0, hc]; rfl
    | true =>
      have h0 := eq_of_beq hc
      have hn := small_of h0
      dsimp only [cond]
      rw [show ((0 : Int) != 0) = false from rfl, ifB_false]
      have e : ∀ K : Nat → Nat → Option (LV × List LV), asPtr (dup (.ptr (S.length + 1) 0)) K = K (S.length + 1) 0 := fun K => rfl
      rw [e, at_of (hP h0).plan, plan_deps, List.length_map, needsAll_len, h0]
      exact pe_b0 hk l hn S' _
  refine popK_at (rs := G.steps_Edges.rs) (r := ((cond (checkRulesS l == 0) (edgesS l) [], checkRulesS l, ()) : LL × Int × Unit)) (G := G') ((hrun _).trans (by rw [← hG])) ?_
  show ([LV.own 33 2 (cond (checkRulesS l == 0) (edgesS l) []), .int .i64 (checkRulesS l)].all (noId 5)) = true
  have h1 : noId 5 (LV.own 33 2 (cond (checkRulesS l == 0) (edgesS l) [])) = true := by
    cases checkRulesS l == 0 with
    | true => exact edges_noId 4 l (by omega)
    | false => rfl
  rw [List.all_cons, h1]; rfl
end
end Go.Lm

/- The reference's Edges; copies of rules, and rules held against their copies. -/
set_option maxRecDepth 100000
namespace Go.Lm
section
variable {R : Type}
theorem re_b1 {k : Nat} (hk : Many k) (l : List Rule) (hn : l.length ≤ 500) (i : Nat) (hi : i < l.length) (S : List LV) (J : LL × LL × LL × Int × Unit → List LV → Option R) :
    rounds (G.smithyardref6_Edges.b1 k J) k (l.map Rule.lv, accE l i, refRows l, (i : Int), 0, ()) S = J (l.map Rule.lv, accE l (i + 1), refRows l, (i : Int), ()) S := by
  have hk' := hk
  unfold Many at hk'
  have hlen := needsTo_len l i l.length
  have hacc := accE_len l hn i
  have hrl : (refRows l).length = l.length := by simp [refRows]
  have hrow : ∀ K : LL → Option R, (idxL (refRows l) (i : Int) fun v => asSl 1 (leaf v 0) K) = K (ints (needsS l i)) := fun K => by
    rw [idxL_nat (by rw [hrl]; exact hi), (refRows_at l).2 i (by rw [needsAll_len]; exact hi)]
    simp [needsAll, List.getD_eq_getElem?_getD, hi]
  have h0 : accE l i = accE l i ++ (rowE l i).take 0 := by simp
  rw [h0]
  refine (rounds_scan0 (fun j => (l.map Rule.lv, accE l i ++ (rowE l i).take j, refRows l, (i : Int), (j : Int), ())) S (needsS l i).length k (fun _ => none) (J (l.map Rule.lv, accE l (i + 1), refRows l, (i : Int), ()) S) (fun rec j hj => ?_) (fun rec => ?_) (by unfold needsS; omega)).trans (scan_none _ _ (fun _ _ _ => rfl))
  · have hjl : j < l.length := by unfold needsS at hj; omega
    have htl : ((rowE l i).take j).length ≤ 500 := by rw [List.length_take]; omega
    unfold G.smithyardref6_Edges.b1 G.smithyardref6_Edges.q0
    dsimp only
    rw [hrow, ints_len, lt_nat, ifB_pos hj, name_at l i hi, hrow, idxL_nat (by rw [ints_len]; exact hj), ints_get _ j hj, leaf_int, name_at l _ (needs_lt l i j hj)]
    rw [app_one (by rw [List.length_append]; omega) (by rw [List.length_append]; omega), List.append_assoc, rowE_take l i j hj, wrap_succ (by omega)]
    rfl
  · unfold G.smithyardref6_Edges.b1
    dsimp only
    rw [hrow, ints_len, lt_nat, ifB_neg (Nat.lt_irrefl _), rowE_all, accE_succ]
theorem re_b0 {k : Nat} (hk : Many k) (l : List Rule) (hn : l.length ≤ 500) (S : List LV) (J : LL × Unit → List LV → Option R) :
    rounds (G.smithyardref6_Edges.b0 k J) k (l.map Rule.lv, [], refRows l, 0, ()) S = J (edgesS l, ()) S := by
  have hk' := hk
  unfold Many at hk'
  refine (rounds_scan0 (fun i => (l.map Rule.lv, accE l i, refRows l, (i : Int), ())) S l.length k (fun _ => none) (J (edgesS l, ()) S) (fun rec i hi => ?_) (fun rec => ?_) (by omega)).trans (scan_none _ _ (fun _ _ _ => rfl))
  · unfold G.smithyardref6_Edges.b0
    dsimp only
    rw [List.length_map, lt_nat, ifB_pos hi]
    refine (re_b1 hk l hn i hi S _).trans ?_
    dsimp only
    rw [wrap_succ (by omega)]
  · unfold G.smithyardref6_Edges.b0
    dsimp only
    rw [List.length_map, lt_nat, ifB_neg (Nat.lt_irrefl _)]; rfl
theorem ref_Edges {k : Nat} (hk : Many k) (l : List Rule) (ok : RulesOk l) (S : List LV) (K : LL × Int × Unit → List LV → Option R) : G.smithyardref6_Edges.fn k (l.map Rule.lv, ()) S K = K (edgesR l, checkRulesS l, ()) S := by
  unfold G.smithyardref6_Edges.fn edgesR
  dsimp only
  rw [ref_CheckRules hk l ok]
  dsimp only
  rw [ne0]
  cases hc : checkRulesS l == 0 with
  | false => rfl
  | true =>
    have h0 := eq_of_beq hc
    have hn := small_of h0
    rw [Bool.not_true, ifB_false, ref_needs hk l ok hn, h0]
    exact re_b0 hk l hn S _
/-! ### Copies -/
structure RuleCp (r : Rule) : Prop where
  fit : ActFit r.act
  ins : r.ins.length * 16 ≤ 140737488351232
theorem ref_CopyRules {k : Nat} (hk : Many k) (l : List Rule) (hl : l.length * 160 ≤ 140737488355328) (hc : ∀ r ∈ l, RuleCp r) (S : List LV) (K : LL × Unit → List LV → Option R) : G.smithyardref6_CopyRules.fn k (l.map Rule.lv, ()) S K = K (l.map Rule.lv, ()) S := by
  have hk' := hk
  unfold Many at hk'
  unfold G.smithyardref6_CopyRules.fn
  have h0 : ([] : List LV) = (l.map Rule.lv).take 0 := rfl
  dsimp only
  rw [h0]
  refine (rounds_scan0 (fun i => (l.map Rule.lv, (l.map Rule.lv).take i, (i : Int), ())) S l.length k (fun _ => none) (K (l.map Rule.lv, ()) S) (fun rec i hi => ?_) (fun rec => ?_) (by omega)).trans (scan_none _ _ (fun _ _ _ => rfl))
  · have hget : ∀ (K : LV → Option R), idxL (l.map Rule.lv) (i : Int) K = K (l.getD i .zero).lv := fun K => by rw [idxL_nat (by simpa using hi), rule_get l i hi]
    have hcp := hc _ (rule_mem l i hi)
    unfold G.smithyardref6_CopyRules.b0 G.smithyardref6_CopyRules.q0
    dsimp only
    rw [List.length_map, lt_nat, ifB_pos hi, hget, rule_name, hget, Rule.mat]
    have e : ∀ K : ByteArray → List LV → List LV → List LV → List LV → Int → Option R, (asStr ((l.getD i .zero).cells.getD 1 .any) fun b => asSl 1 ((l.getD i .zero).cells.getD 2 .any) fun c => asSl 2 ((l.getD i .zero).cells.getD 3 .any) fun d => asSl 1 ((l.getD i .zero).cells.getD 4 .any) fun e => asSl 2 ((l.getD i .zero).cells.getD 5 .any) fun f => asInt .i64 ((l.getD i .zero).cells.getD 6 .any) fun g => K b c d e f g) =
        K (l.getD i .zero).act.tool ((l.getD i .zero).act.cmds.map cmdL) ((l.getD i .zero).act.vars.map varL) ((l.getD i .zero).act.outs.map .str) ((l.getD i .zero).act.needs.map varL) (l.getD i .zero).act.time := fun K => by
      unfold Rule.cells
      simp only [List.getD_cons_zero, List.getD_cons_succ, asStr_str, asInt_int, asSl_sl]
    rw [e, hget, rule_ins]
    refine (ref_CopyAction hk (l.getD i .zero).act hcp.fit S _).trans ?_
    rw [clone_str k _ (by rw [List.length_map]; exact hcp.ins)]
    dsimp only
    rw [app_one (by rw [List.length_take, List.length_map]; omega) (by rw [List.length_take, List.length_map]; omega), wrap_succ (by omega)]
    congr 3
    rw [List.take_add_one, List.getElem?_map, List.getElem?_eq_getElem hi]
    congr 1
    rw [List.getD_eq_getElem?_getD, List.getElem?_eq_getElem hi]
    rfl
  · unfold G.smithyardref6_CopyRules.b0
    dsimp only
    rw [List.length_map, lt_nat, ifB_neg (Nat.lt_irrefl _), List.take_of_length_le (by simp)]
end
end Go.Lm

/- Lists held against themselves; the law StepsRulesMatchSpec. -/
set_option maxRecDepth 100000
namespace Go.Lm
section
variable {R : Type}
theorem eq_strs {k : Nat} (hk : Many k) (l : List ByteArray) (hl : l.length ≤ 140737488355328) (S : List LV) (K : Bool × Unit → List LV → Option R) : G.slices_Equal_s_string_string.fn k (l.map .str, l.map .str, ()) S K = K (true, ()) S := by
  unfold Many at hk
  unfold G.slices_Equal_s_string_string.fn
  dsimp only
  rw [List.length_map, ne_nat, beq_self_eq_true, Bool.not_true, ifB_false]
  refine (rounds_scan0 (fun i => (l.map LV.str, l.map LV.str, (l.length : Int), (i : Int), ())) S l.length k (fun _ => none) (K (true, ()) S) (fun rec i hi => ?_) (fun rec => ?_) (by omega)).trans (scan_none _ _ (fun _ _ _ => rfl))
  · unfold G.slices_Equal_s_string_string.b0
    dsimp only
    rw [lt_nat, ifB_pos hi, idxL_nat (by simpa using hi), map_str_get l i hi, asLeaf_str, idxL_nat (by simpa using hi), map_str_get l i hi, asLeaf_str, strEq_refl, Bool.not_true, ifB_false, wrap_succ (by omega)]
  · unfold G.slices_Equal_s_string_string.b0
    dsimp only
    rw [lt_nat, ifB_neg (Nat.lt_irrefl _)]
theorem eq_edges {k : Nat} (hk : Many k) (l : List LV) (hl : l.length ≤ 140737488355328) (he : ∀ v ∈ l, ∃ a b, v = LV.agg [.str a, .str b]) (S : List LV) (K : Bool × Unit → List LV → Option R) : G.slices_Equal_s_api_Edge_api_Edge.fn k (l, l, ()) S K = K (true, ()) S := by
  unfold Many at hk
  unfold G.slices_Equal_s_api_Edge_api_Edge.fn
  dsimp only
  rw [ne_nat, beq_self_eq_true, Bool.not_true, ifB_false]
  refine (rounds_scan0 (fun i => (l, l, (l.length : Int), (i : Int), ())) S l.length k (fun _ => none) (K (true, ()) S) (fun rec i hi => ?_) (fun rec => ?_) (by omega)).trans (scan_none _ _ (fun _ _ _ => rfl))
  · have hm : l.getD i .any ∈ l := by rw [List.getD_eq_getElem?_getD, List.getElem?_eq_getElem hi]; exact List.getElem_mem hi
    obtain ⟨a, b, e⟩ := he _ hm
    have hmat : ∀ K : List LV → Option R, mat 2 (LV.agg [.str a, .str b]) K = K [.str a, .str b] := fun K => rfl
    unfold G.slices_Equal_s_api_Edge_api_Edge.b0
    dsimp only
    rw [lt_nat, ifB_pos hi, idxL_nat hi, e, hmat]
    simp only [List.getD_cons_zero, List.getD_cons_succ, asStr_str]
    rw [idxL_nat hi, e, hmat]
    simp only [List.getD_cons_zero, List.getD_cons_succ, asStr_str]
    rw [strEq_refl, strEq_refl, show (!((true && (true && true)) == true)) = false from rfl, ifB_false, wrap_succ (by omega)]
  · unfold G.slices_Equal_s_api_Edge_api_Edge.b0
    dsimp only
    rw [lt_nat, ifB_neg (Nat.lt_irrefl _)]
theorem edgesR_form (l : List Rule) : ∀ v ∈ edgesR l, ∃ a b, v = LV.agg [.str a, .str b] := by
  intro v hv
  unfold edgesR at hv
  cases hc : checkRulesS l == 0 with
  | false => rw [hc] at hv; cases hv
  | true =>
    rw [hc] at hv
    have hv : v ∈ edgesS l := hv
    unfold edgesS accE at hv
    obtain ⟨r, hr, hv⟩ := List.mem_flatten.1 hv
    obtain ⟨i, _, rfl⟩ := List.mem_map.1 hr
    obtain ⟨k, _, rfl⟩ := List.mem_map.1 hv
    exact ⟨_, _, rfl⟩
theorem edgesR_len (l : List Rule) : (edgesR l).length ≤ 250000 := by
  unfold edgesR
  cases hc : checkRulesS l == 0 with
  | false => simp
  | true =>
    have hn := small_of (eq_of_beq hc)
    have := accE_len l hn l.length
    show (accE l l.length).length ≤ _
    omega
structure RuleLen (r : Rule) : Prop where
  act : ActLen r.act 140737488355328
  cmd : ∀ c ∈ r.act.cmds, c.length ≤ 140737488355328
  ins : r.ins.length ≤ 140737488355328
theorem ref_SameRules {k : Nat} (hk : Many k) (l : List Rule) (hl : l.length ≤ 140737488355328) (hr : ∀ r ∈ l, RuleLen r) (S : List LV) (K : Bool × Unit → List LV → Option R) : G.smithyardref6_SameRules.fn k (l.map Rule.lv, l.map Rule.lv, ()) S K = K (true, ()) S := by
  have hk' := hk
  unfold Many at hk'
  unfold G.smithyardref6_SameRules.fn
  dsimp only
  rw [ne_nat, beq_self_eq_true, Bool.not_true, ifB_false]
  refine (rounds_scan0 (fun i => (l.map Rule.lv, l.map Rule.lv, (i : Int), ())) S l.length k (fun _ => none) (K (true, ()) S) (fun rec i hi => ?_) (fun rec => ?_) (by omega)).trans (scan_none _ _ (fun _ _ _ => rfl))
  · have hget : ∀ (K : LV → Option R), idxL (l.map Rule.lv) (i : Int) K = K (l.getD i .zero).lv := fun K => by rw [idxL_nat (by simpa using hi), rule_get l i hi]
    have hln := hr _ (rule_mem l i hi)
    have e : ∀ K : ByteArray → List LV → List LV → List LV → List LV → Int → Option R, (asStr ((l.getD i .zero).cells.getD 1 .any) fun b => asSl 1 ((l.getD i .zero).cells.getD 2 .any) fun c => asSl 2 ((l.getD i .zero).cells.getD 3 .any) fun d => asSl 1 ((l.getD i .zero).cells.getD 4 .any) fun e => asSl 2 ((l.getD i .zero).cells.getD 5 .any) fun f => asInt .i64 ((l.getD i .zero).cells.getD 6 .any) fun g => K b c d e f g) =
        K (l.getD i .zero).act.tool ((l.getD i .zero).act.cmds.map cmdL) ((l.getD i .zero).act.vars.map varL) ((l.getD i .zero).act.outs.map .str) ((l.getD i .zero).act.needs.map varL) (l.getD i .zero).act.time := fun K => by
      unfold Rule.cells
      simp only [List.getD_cons_zero, List.getD_cons_succ, asStr_str, asInt_int, asSl_sl]
    unfold G.smithyardref6_SameRules.b0 G.smithyardref6_SameRules.q0
    dsimp only
    rw [List.length_map, lt_nat, ifB_pos hi, hget, rule_name, hget, rule_name, strEq_refl, Bool.not_true, ifB_false, hget, Rule.mat, e, hget, Rule.mat, e]
    refine (ref_SameAction hk (l.getD i .zero).act hln.act (Nat.le_refl _) hln.cmd S _).trans ?_
    dsimp only
    rw [Bool.not_true, ifB_false, hget, rule_ins, hget, rule_ins, eq_strs hk _ hln.ins]
    dsimp only
    rw [Bool.not_true, ifB_false, wrap_succ (by omega)]
  · unfold G.smithyardref6_SameRules.b0
    dsimp only
    rw [List.length_map, lt_nat, ifB_neg (Nat.lt_irrefl _)]
/-- What a law's arguments are to be. -/
structure LawOk (l : List Rule) : Prop where
  ok : RulesOk l
  room : l.length * 160 ≤ 140737488355328
  cp : ∀ r ∈ l, RuleCp r
  len : ∀ r ∈ l, RuleLen r
theorem law10 {k : Nat} (hk : Many k) (l : List Rule) (h : LawOk l) (S : List LV) (K : Bool × Unit → List LV → Option R) : G.smithyardlaw6_StepsRulesMatchSpec.fn k (l.map Rule.lv, ()) S K = K (true, ()) S := by
  unfold G.smithyardlaw6_StepsRulesMatchSpec.fn
  dsimp only
  rw [ref_CopyRules hk l h.room h.cp]
  dsimp only
  rw [prog_Edges hk l h.ok]
  dsimp only
  rw [ref_Edges hk l h.ok]
  dsimp only
  rw [prog_CheckRules hk l h.ok]
  dsimp only
  rw [ref_CheckRules hk l h.ok]
  dsimp only
  have hlen := edgesR_len l
  rw [beq_self_eq_true, ifB_true, eq_edges hk _ (by omega) (edgesR_form l)]
  dsimp only
  rw [ifB_true, ifB_true, ref_SameRules hk l h.ok.n h.len]
  dsimp only
  rw [ifB_true, awake_true hk]
end
end Go.Lm
