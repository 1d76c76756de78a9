/- Parts of the proof: LmQ25, LmQ26, LmQ27, LmQ28, LmQ29, LmQ30, LmQ31, LmQ32, LmW. -/
import Derived.Test.YtefkkflmiabfeaaGreatDoorLf
import Derived.Carry
import Derived.SizedLaws
set_option linter.unusedVariables false
set_option linter.unusedSimpArgs false
set_option maxRecDepth 100000
namespace Go.Lm
section
variable {R : Type}
def leftI (D : List (List Nat)) (inn d : List Bool) (i : Nat) : Int := cond (inn.getD i false) (leftD D d i) 0
theorem leftI_in {D : List (List Nat)} {inn d : List Bool} {i : Nat} (h : inn.getD i false = true) : leftI D inn d i = leftD D d i := by unfold leftI; rw [h]; rfl
theorem leftI_out {D : List (List Nat)} {inn d : List Bool} {i : Nat} (h : inn.getD i false = false) : leftI D inn d i = 0 := by unfold leftI; rw [h]; rfl
def readyI (inn : List Bool) (g : Nat → Int) (d : List Bool) (i : Nat) : Bool := readyP g d i && inn.getD i false
theorem readyI_good (D : List (List Nat)) (inn d : List Bool) (i : Nat) (hi : i < D.length) : readyI inn (leftI D inn d) d i = goodAt D inn d i := by
 have h := ready_good D d i hi
 unfold readyI goodAt
 unfold readyP goodAt at h
 rw [allTrue _ _ hi,Bool.true_and] at h
 unfold readyP
 cases hin : inn.getD i false with
 | false => rw [Bool.and_false,Bool.false_and,Bool.false_and]
 | true =>
  rw [leftI_in hin,Bool.and_true,Bool.true_and]
  exact h
theorem users_has (D : List (List Nat)) (inn : List Bool) (i k : Nat) (hi : i < D.length) : (usersTo D inn D.length k).contains i = (inn.getD i false && (D.getD i []).contains k) := by
 unfold usersTo
 rw [Bool.eq_iff_iff,List.contains_iff_mem,List.mem_filter,List.mem_range]
 exact ⟨fun h => h.2,fun h => ⟨hi,h⟩⟩
theorem leftI_done (D : List (List Nat)) (hD : Rows D) (inn d : List Bool) (k : Nat) (hk : k < d.length) (hd : d.getD k false = false) (i : Nat) (hi : i < D.length) :
  leftI D inn d i - cond ((usersTo D inn D.length k).contains i) 1 0 = leftI D inn (d.set k true) i := by
 have h := filter_done d k hk hd (D.getD i []) (hD.get i hi)
 rw [users_has D inn i k hi]
 cases hin : inn.getD i false with
 | false => rw [leftI_out hin,leftI_out hin]; rfl
 | true =>
  rw [leftI_in hin,leftI_in hin,Bool.true_and]
  unfold leftD
  rw [← h]
  cases (D.getD i []).contains k <;> simp
theorem leftI_le (D : List (List Nat)) (hD : Rows D) (inn d : List Bool) (i : Nat) : -1000 ≤ leftI D inn d i ∧ leftI D inn d i ≤ 1000 := by
 have h := leftD_le D hD d i
 cases hin : inn.getD i false
 ·rw [leftI_out hin]; exact ⟨by decide,by decide⟩
 ·rw [leftI_in hin]; exact h
theorem leftTo_no (D : List (List Nat)) (inn : List Bool) (t : Nat) (h : inn.getD t false = false) : leftTo D inn (t + 1) = leftTo D inn t := by
 funext j
 unfold leftTo
 by_cases e : j = t
 ·subst e
  rw [h,Bool.and_false,Bool.and_false]
 ·by_cases h1 : j < t
  ·rw [decide_eq_true h1,decide_eq_true (by omega : j < t + 1)]
  ·rw [decide_eq_false h1,decide_eq_false (by omega : ¬ j < t + 1)]
theorem usersTo_no (D : List (List Nat)) (inn : List Bool) (t : Nat) (h : inn.getD t false = false) : usersTo D inn (t + 1) = usersTo D inn t := by
 funext k
 rw [usersTo_succ,h,Bool.false_and,cond_false,List.append_nil]
abbrev OoT := (Nat × Nat) × (Nat × Nat × Nat) × (Nat × Nat × Nat) × (Nat × Nat × Nat) × Int × LL × Int × Int × Unit
theorem oo_b1 {k : Nat} (hk : Many k) (D : List (List Nat)) (hD : Rows D) (inn : List Bool) (pl : Nat × Nat) (si li : Nat × Nat × Nat) (ui i : Nat) (hi : i < D.length) (many : Int) (rows : LL) (n ii : Int) (S : List LV) (hS : RowsObj S ui D.length (usersTo D inn i)) :
  ∃ S',(RowsObj S' ui D.length (fun k => usersIn D inn i (D.getD i []).length k) ∧ Keeps S S' [ui]) ∧
   ∀ J : OoT → List LV → Option R,rounds (G.steps_plan_order_osl.b1 k J) k (pl,si,li,(ui,0,D.length),many,(i : Int),rows,n,ii,ints (D.getD i []),((D.getD i []).length : Int),0,()) S = J (pl,si,li,(ui,0,D.length),many,rows,n,ii,()) S' := by
 have hk' := hk
 unfold Many at hk'
 have hsm := hD.small.get i hi
 refine loop_all (R := R) (b := fun J => G.steps_plan_order_osl.b1 k J) (x := fun t => (pl,si,li,(ui,0,D.length),many,(i : Int),rows,n,ii,ints (D.getD i []),((D.getD i []).length : Int),(t : Int),())) (n := (D.getD i []).length)
  (Inv := fun t S1 => RowsObj S1 ui D.length (fun k => usersIn D inn i t k) ∧ Keeps S S1 [ui])
  (out := fun (J : OoT → List LV → Option R) S' => J (pl,si,li,(ui,0,D.length),many,rows,n,ii,()) S')
  (fun t S1 ht hI => ?_) (fun J rec S1 hI => ?_) k (by omega) S ⟨?_,Keeps.refl _ _⟩
 ·obtain ⟨h1,h2⟩ := hI
  have hkl : (D.getD i []).getD t 0 < D.length := hsm.2 _ (nat_mem _ t ht)
  have hlen : (usersIn D inn i t ((D.getD i []).getD t 0)).length ≤ 500 := by
   have := usersTo_len D inn i ((D.getD i []).getD t 0)
   have h500 := hD.small.1
   unfold usersIn
   rw [List.length_append]
   have h1 : ∀ b : Bool,(cond b [i] []).length ≤ 1 := fun b => by cases b <;> simp
   have h1 := h1 (((D.getD i []).take t).contains ((D.getD i []).getD t 0))
   omega
  refine ⟨S1.set ui (rowsO D.length (updF (fun k => usersIn D inn i t k) ((D.getD i []).getD t 0) (usersIn D inn i t ((D.getD i []).getD t 0) ++ [i]))),⟨?_,h2.trans (Keeps.set _ _ _)⟩,fun J rec => ?_⟩
  ·have e : (updF (fun k => usersIn D inn i t k) ((D.getD i []).getD t 0) (usersIn D inn i t ((D.getD i []).getD t 0) ++ [i])) = fun k => usersIn D inn i (t + 1) k := by
    funext k
    unfold updF usersIn
    rw [take_contains _ t ht]
    by_cases e : k = (D.getD i []).getD t 0
    ·subst e
     rw [nodup_take (hD.get i hi) t ht]; simp
    ·have e0 : (k == (D.getD i []).getD t 0) = false := by simpa using e
     rw [e0,Bool.or_false]; rfl
   show RowsObj _ _ _ (fun k => usersIn D inn i (t + 1) k)
   rw [← e]
   exact RowsObj.of _ _ _ _ (lt_get h1 (by simp))
  ·unfold G.steps_plan_order_osl.b1 G.steps_plan_order_osl.q4 G.steps_plan_order_osl.q5 G.steps_plan_order_osl.q6
   dsimp only
   rw [lt_nat,ifB_pos ht,idxL_nat (by rw [ints_len]; exact ht),ints_get _ t ht,leaf_int]
   refine (RowsObj.app h1 hkl i hlen _).trans ?_
   rw [wrap_succ (by omega)]
 ·unfold G.steps_plan_order_osl.b1 G.steps_plan_order_osl.q4
  dsimp only
  rw [lt_nat,ifB_neg (Nat.lt_irrefl _)]
 ·have e : (fun k => usersIn D inn i 0 k) = usersTo D inn i := by
   funext k
   unfold usersIn
   simp
  rw [e]; exact hS
abbrev Oo0 := (Nat × Nat) × (Nat × Nat × Nat) × (Nat × Nat × Nat) × (Nat × Nat × Nat) × Int × Unit
theorem oo_b0 {k : Nat} (hk : Many k) (D : List (List Nat)) (hD : Rows D) (inn : List Bool) (hin : inn.length = D.length) (pl : Nat × Nat) (si li ui : Nat) (hne : li ≠ ui) (hs1 : si ≠ li) (hs2 : si ≠ ui) (S : List LV) (hB : BoolsAt S si inn) (hL : IntsObj S li D.length (leftTo D inn 0)) (hU : RowsObj S ui D.length (usersTo D inn 0)) :
  ∃ S',(IntsObj S' li D.length (leftTo D inn D.length) ∧ RowsObj S' ui D.length (usersTo D inn D.length) ∧ Keeps S S' [li,ui]) ∧
   ∀ J : Oo0 → List LV → Option R,rounds (G.steps_plan_order_osl.b0 k J) k (pl,(si,0,D.length),(li,0,D.length),(ui,0,D.length),0,D.map rowS,(D.length : Int),0,()) S = J (pl,(si,0,D.length),(li,0,D.length),(ui,0,D.length),(countTo inn D.length : Nat),()) S' := by
 have hk' := hk
 unfold Many at hk'
 have h500 := hD.small.1
 refine loop_all (R := R) (b := fun J => G.steps_plan_order_osl.b0 k J) (x := fun t => (pl,(si,0,D.length),(li,0,D.length),(ui,0,D.length),((countTo inn t : Nat) : Int),D.map rowS,(D.length : Int),(t : Int),())) (n := D.length)
  (Inv := fun t S1 => IntsObj S1 li D.length (leftTo D inn t) ∧ RowsObj S1 ui D.length (usersTo D inn t) ∧ Keeps S S1 [li,ui])
  (out := fun (J : Oo0 → List LV → Option R) S' => J (pl,(si,0,D.length),(li,0,D.length),(ui,0,D.length),(countTo inn D.length : Nat),()) S')
  (fun t S1 ht hI => ?_) (fun J rec S1 hI => ?_) k (by omega) S ⟨hL,hU,Keeps.refl _ _⟩
 ·obtain ⟨h1,h2,h3⟩ := hI
  have hB1 : BoolsAt S1 si inn := h3.get hB (by simp) (by simp; exact ⟨hs1,hs2⟩)
  have hcl := countTo_le inn t
  cases hb : inn.getD t false with
  | false =>
   refine ⟨S1,⟨by rw [leftTo_no D inn t hb]; exact h1,by rw [usersTo_no D inn t hb]; exact h2,h3⟩,fun J rec => ?_⟩
   unfold G.steps_plan_order_osl.b0 G.steps_plan_order_osl.q1
   dsimp only
   rw [lt_nat,ifB_pos ht,row_at D t ht,show (false == true) = false from rfl,ifB_false,idxN_nat ht,hB1.ld (by omega),hb,ifB_false,wrap_succ (by omega),countTo_succ,hb]
   rfl
  | true =>
   have hK1 : Keeps S1 (S1.set li (intsO D.length (updF (leftTo D inn t) t (((D.getD t []).length : Nat) : Int)))) [li] := Keeps.set _ _ _
   have hL1 := IntsObj.of S1 li D.length (updF (leftTo D inn t) t (((D.getD t []).length : Nat) : Int)) (lt_get h1 (by simp))
   have hU1 : RowsObj (S1.set li (intsO D.length (updF (leftTo D inn t) t (((D.getD t []).length : Nat) : Int)))) ui D.length (usersTo D inn t) := hK1.get h2 (by simp) (by simp; exact Ne.symm hne)
   obtain ⟨S2,⟨h4,h5⟩,h6⟩ := oo_b1 (R := R) hk D hD inn pl (si,0,D.length) (li,0,D.length) ui t ht ((countTo inn t + 1 : Nat) : Int) (D.map rowS) (D.length : Int) (t : Int) _ hU1
   refine ⟨S2,⟨?_,?_,h3.trans ((hK1.weak (fun m hm => by simp at hm; simp [hm])).trans (h5.weak (fun m hm => by simp at hm; simp [hm])))⟩,fun J rec => ?_⟩
   ·rw [← left_upd D _ t hb]
    exact h5.get hL1 (by simp) (by simp; exact hne)
   ·rw [← users_full D _ t hb]; exact h4
   ·unfold G.steps_plan_order_osl.b0 G.steps_plan_order_osl.q1 G.steps_plan_order_osl.q2 G.steps_plan_order_osl.q3 G.steps_plan_order_osl.q0
    dsimp only
    rw [lt_nat,ifB_pos ht,row_at D t ht,show (false == true) = false from rfl,ifB_false,idxN_nat ht,hB1.ld (by omega),hb,ifB_true,ints_len,idxN_nat ht]
    refine (IntsObj.st h1 ht _ _).trans ?_
    rw [wrap_succ (by omega)]
    refine (h6 _).trans ?_
    dsimp only
    rw [wrap_succ (by omega),countTo_succ,hb]; rfl
 ·unfold G.steps_plan_order_osl.b0
  dsimp only
  rw [lt_nat,ifB_neg (Nat.lt_irrefl _)]
abbrev OzT := (Nat × Nat × Nat) × (Nat × Nat × Nat) × (Nat × Nat × Nat) × Int × (Nat × Nat × Nat) × LL × Unit
theorem oo_b4 {k : Nat} (hk : Many k) (n : Nat) (ul : List Nat) (hul : ul.length ≤ 500) (hnd : ul.Nodup) (hlt : ∀ u ∈ ul,u < n) (si : Nat × Nat × Nat) (li : Nat) (ui : Nat × Nat × Nat) (many : Int) (di : Nat × Nat × Nat) (out : LL) (g : Nat → Int) (hg : ∀ i,-1000 ≤ g i ∧ g i ≤ 1000) (S : List LV) (hS : IntsObj S li n g) :
  ∃ S',(IntsObj S' li n (fun i => g i - cond (ul.contains i) 1 0) ∧ Keeps S S' [li]) ∧
   ∀ J : OzT → List LV → Option R,rounds (G.steps_plan_order_osl.b4 k J) k (si,(li,0,n),ui,many,di,out,ints ul,(ul.length : Int),0,()) S = J (si,(li,0,n),ui,many,di,out,()) S' := by
 have hk' := hk
 unfold Many at hk'
 have hl := loop_all (R := R) (b := fun J => G.steps_plan_order_osl.b4 k J) (x := fun t => (si,(li,0,n),ui,many,di,out,ints ul,(ul.length : Int),(t : Int),())) (n := ul.length)
  (Inv := fun t S1 => IntsObj S1 li n (fun i => g i - cond ((ul.take t).contains i) 1 0) ∧ Keeps S S1 [li])
  (out := fun (J : OzT → List LV → Option R) S' => J (si,(li,0,n),ui,many,di,out,()) S')
  (fun t S1 ht hI => ?_) (fun J rec S1 hI => ?_) k (by omega) S ⟨hS.congr (fun i _ => by simp),Keeps.refl _ _⟩
 ·obtain ⟨S',⟨h1,h2⟩,h3⟩ := hl
  rw [List.take_length] at h1
  exact ⟨S',⟨h1,h2⟩,h3⟩
 ·obtain ⟨h1,h2⟩ := hI
  have hu : ul.getD t 0 < n := hlt _ (nat_mem _ t ht)
  have hg1 := hg (ul.getD t 0)
  have h0 : g (ul.getD t 0) - cond ((ul.take t).contains (ul.getD t 0)) 1 0 = g (ul.getD t 0) := by
   rw [nodup_take hnd t ht,cond_false,Int.sub_zero]
  refine ⟨S1.set li (intsO n (updF (fun i => g i - cond ((ul.take t).contains i) 1 0) (ul.getD t 0) (g (ul.getD t 0) - 1))),⟨?_,h2.trans (Keeps.set _ _ _)⟩,fun J rec => ?_⟩
  ·refine (IntsObj.of _ _ _ _ (lt_get h1 (by simp))).congr fun i _ => ?_
   unfold updF
   rw [take_contains _ t ht]
   by_cases e : i = ul.getD t 0
   ·subst e; simp
   ·have e0 : (i == ul.getD t 0) = false := by simpa using e
    rw [e0,Bool.or_false]; rfl
  ·unfold G.steps_plan_order_osl.b4
   dsimp only
   rw [lt_nat,ifB_pos ht,idxL_nat (by rw [ints_len]; exact ht),ints_get _ t ht,leaf_int,idxN_nat hu,IntsObj.ld h1 hu,h0,idxN_nat hu]
   refine (IntsObj.st h1 hu _ _).trans ?_
   rw [wrap_id (n := g (ul.getD t 0) - 1) (by omega) (by omega),wrap_succ (by omega)]
 ·unfold G.steps_plan_order_osl.b4
  dsimp only
  rw [lt_nat,ifB_neg (Nat.lt_irrefl _)]
theorem oo_b3 {k : Nat} (hk : Many k) (n : Nat) (hn : n ≤ 500) (si li di : Nat) (ui : Nat × Nat × Nat) (many : Int) (out : LL) (g : Nat → Int) (inn d : List Bool) (hi : inn.length = n) (hd : d.length = n) (S : List LV) (hI : BoolsAt S si inn) (hS : IntsObj S li n g) (hB : BoolsAt S di d) (J : (Nat × Nat × Nat) × (Nat × Nat × Nat) × (Nat × Nat × Nat) × Int × (Nat × Nat × Nat) × LL × Int × Unit → List LV → Option R) :
  rounds (G.steps_plan_order_osl.b3 k J) k ((si,0,n),(li,0,n),ui,many,(di,0,n),out,0,()) S = J ((si,0,n),(li,0,n),ui,many,(di,0,n),out,((((List.range n).find? (readyI inn g d)).getD n : Nat) : Int),()) S := by
 unfold Many at hk
 refine (rounds_scan0 (fun t => ((si,0,n),(li,0,n),ui,many,(di,0,n),out,(t : Int),())) S n k (fun t => cond (readyI inn g d t) (some (J ((si,0,n),(li,0,n),ui,many,(di,0,n),out,(t : Int),()) S)) none) (J ((si,0,n),(li,0,n),ui,many,(di,0,n),out,(n : Int),()) S) (fun rec t ht => ?_) (fun rec => ?_) (by omega)).trans ?_
 ·unfold G.steps_plan_order_osl.b3 G.steps_plan_order_osl.q7
  dsimp only
  rw [lt_nat,ifB_pos ht,idxN_nat ht,BoolsAt.ld hB (by omega)]
  unfold readyI readyP
  cases d.getD t false with
  | true =>
   rw [ifB_true,wrap_succ (by omega)]; rfl
  | false =>
   rw [ifB_false,idxN_nat ht,IntsObj.ld hS ht]
   by_cases hg : g t > 0
   ·rw [decide_eq_true hg,ifB_true,wrap_succ (by omega),decide_eq_false (by omega : ¬ g t ≤ 0)]; rfl
   ·rw [decide_eq_false hg,ifB_false,decide_eq_true (by omega : g t ≤ 0),show (!(false == true)) = true from rfl,ifB_true,idxN_nat ht,BoolsAt.ld hI (by omega)]
    cases inn.getD t false with
    | true => rfl
    | false => rw [Bool.not_false,ifB_true,wrap_succ (by omega)]; rfl
 ·unfold G.steps_plan_order_osl.b3
  dsimp only
  rw [lt_nat,ifB_neg (Nat.lt_irrefl _)]
 ·rw [scan_find (readyI inn g d) (fun t => J ((si,0,n),(li,0,n),ui,many,(di,0,n),out,(t : Int),()) S) n n 0 (by omega),← List.range_eq_range']
end
end Go.Lm
set_option maxRecDepth 100000
namespace Go.Lm
section
variable {R : Type}
def pend (inn d : List Bool) (n : Nat) : Nat := ((List.range n).filter (leftAt inn d)).length
theorem pend_succ (inn d : List Bool) (n : Nat) : pend inn d (n + 1) = pend inn d n + cond (leftAt inn d n) 1 0 := by
 unfold pend
 rw [List.range_succ,List.filter_append,List.length_append,List.filter_cons]
 cases leftAt inn d n <;> simp
theorem left_set (inn d : List Bool) (i j : Nat) (hi : i < d.length) : leftAt inn (d.set i true) j = (!(decide (i = j)) && leftAt inn d j) := by
 unfold leftAt
 rw [set_getD d i j hi]
 cases decide (i = j) <;> cases inn.getD j false <;> rfl
theorem pend_set {inn d : List Bool} {i : Nat} (hi : i < d.length) (h : leftAt inn d i = true) : ∀ n,pend inn (d.set i true) n + cond (decide (i < n)) 1 0 = pend inn d n
 | 0 => rfl
 | n + 1 => by
  have ih := pend_set hi h n
  rw [pend_succ,pend_succ,left_set inn d i n hi]
  rcases Nat.lt_trichotomy i n with h1 | h1 | h1
  ·rw [decide_eq_true h1] at ih
   rw [decide_eq_true (by omega : i < n + 1),decide_eq_false (by omega : ¬ i = n),Bool.not_false,Bool.true_and,← ih]
   omega
  ·subst h1
   rw [decide_eq_false (Nat.lt_irrefl i)] at ih
   rw [decide_eq_true (Nat.lt_succ_self i),decide_eq_true rfl,h,Bool.not_true,Bool.false_and,← ih]
  ·rw [decide_eq_false (by omega : ¬ i < n)] at ih
   rw [decide_eq_false (by omega : ¬ i < n + 1),decide_eq_false (by omega : ¬ i = n),Bool.not_false,Bool.true_and,← ih]
   rfl
theorem pend_any {inn d : List Bool} {n : Nat} : (List.range n).any (leftAt inn d) = decide (0 < pend inn d n) := by
 rw [Bool.eq_iff_iff,List.any_eq_true,decide_eq_true_iff]
 unfold pend
 rw [List.length_pos_iff_exists_mem]
 exact ⟨fun ⟨x,h1,h2⟩ => ⟨x,List.mem_filter.2 ⟨h1,h2⟩⟩,fun ⟨x,h⟩ => ⟨x,(List.mem_filter.1 h).1,(List.mem_filter.1 h).2⟩⟩
theorem good_left {D : List (List Nat)} {inn d : List Bool} {i : Nat} (h : goodAt D inn d i = true) : leftAt inn d i = true := by
 obtain ⟨h1,h2,_⟩ := goodAt_iff.1 h
 unfold leftAt
 rw [h1,h2]; rfl
theorem oo_b2 {k : Nat} (hk : Many k) (D : List (List Nat)) (hD : Rows D) (inn : List Bool) (hin : inn.length = D.length) (si li ui di : Nat) (h1 : li ≠ ui) (h2 : li ≠ di) (h3 : ui ≠ di) (h4 : si ≠ li) (h5 : si ≠ di) :
  ∀ (f : Nat) (d : List Bool) (out : List Nat) (fuel : Nat) (S : List LV),d.length = D.length → d.count false < f → out.length + pend inn d D.length = countTo inn D.length → f ≤ fuel →
   BoolsAt S si inn → IntsObj S li D.length (leftI D inn d) → RowsObj S ui D.length (usersTo D inn D.length) → BoolsAt S di d →
   ∃ S',Keeps S S' [li,di] ∧ ∀ q : (LL × Unit → List LV → Option R) × (LL × Bool × Unit → List LV → Option R),
    rounds (G.steps_plan_order_osl.b2 k q.1 q.2) fuel ((si,0,D.length),(li,0,D.length),(ui,0,D.length),((countTo inn D.length : Nat) : Int),(di,0,D.length),ints out,()) S =
     cond (ordS D inn f d out).2 (q.1 (ints (ordS D inn f d out).1,()) S') (q.2 ([],false,()) S')
 | 0,d,out,fuel,S,hd,hf,ho,hfu,hI,hL,hU,hB => absurd hf (by omega)
 | f + 1,d,out,fuel,S,hd,hf,ho,hfu,hI,hL,hU,hB => by
  obtain ⟨m,rfl⟩ : ∃ m,fuel = m + 1 := ⟨fuel - 1,by omega⟩
  have hlen := hD.small.1
  have hcl := countTo_le inn D.length
  have hnx : (List.range D.length).find? (readyI inn (leftI D inn d) d) = nextS D inn d := by
   unfold nextS
   exact find_congr _ fun x hx => readyI_good D inn d x (List.mem_range.1 hx)
  have hb3 := fun J => oo_b3 (R := R) hk D.length hlen si li di (ui,0,D.length) ((countTo inn D.length : Nat) : Int) (ints out) (leftI D inn d) inn d hin hd S hI hL hB J
  rw [hnx] at hb3
  unfold ordS
  rw [pend_any]
  rcases Nat.eq_zero_or_pos (pend inn d D.length) with hc | hc
  ·have hn : nextS D inn d = none := by
    cases hn : nextS D inn d with
    | none => rfl
    | some i =>
     obtain ⟨hil,hg⟩ := nextS_some hn
     have : (List.range D.length).any (leftAt inn d) = true := List.any_eq_true.2 ⟨i,List.mem_range.2 hil,good_left hg⟩
     rw [pend_any,hc] at this; cases this
   rw [hn,hc]
   refine ⟨S,Keeps.refl _ _,fun q => ?_⟩
   rw [rounds_succ]
   unfold G.steps_plan_order_osl.b2
   dsimp only
   rw [ints_len,lt_nat,ifB_neg (by omega)]
   rfl
  ·have hlt : out.length < countTo inn D.length := by omega
   cases hn : nextS D inn d with
   | none =>
    rw [decide_eq_true hc]
    rw [hn] at hb3
    refine ⟨S,Keeps.refl _ _,fun q => ?_⟩
    rw [rounds_succ]
    unfold G.steps_plan_order_osl.b2
    dsimp only
    rw [ints_len,lt_nat,ifB_pos hlt]
    refine (hb3 _).trans ?_
    dsimp only [Option.getD_none]
    rw [show ((D.length : Int) == (D.length : Int)) = true from beq_self_eq_true _,ifB_true]
    rfl
   | some i =>
    obtain ⟨hil,hg⟩ := nextS_some hn
    have hdf : d.getD i false = false := (goodAt_iff.1 hg).2.1
    have hcs := count_set (d := d) (by omega) hdf
    have hps := pend_set (d := d) (by omega) (good_left hg) D.length
    rw [decide_eq_true hil,cond_true] at hps
    rw [hn] at hb3
    let S1 := S.set di (.obj 4 (bools (d.set i true)))
    have hK1 : Keeps S S1 [di] := Keeps.set _ _ _
    have hI1 : BoolsAt S1 si inn := hK1.get hI (by simp) (by simp; exact h5)
    have hL1 : IntsObj S1 li D.length (leftI D inn d) := hK1.get hL (by simp) (by simp; exact h2)
    have hU1 : RowsObj S1 ui D.length (usersTo D inn D.length) := hK1.get hU (by simp) (by simp; exact h3)
    have hB1 : BoolsAt S1 di (d.set i true) := hB.set _
    have hul := usersTo_len D inn D.length i
    have hlu : ∀ u ∈ usersTo D inn D.length i,u < D.length := fun u hu => List.mem_range.1 (List.mem_filter.1 hu).1
    obtain ⟨S2,⟨hL2,hK2⟩,hb4⟩ := oo_b4 (R := R) hk D.length (usersTo D inn D.length i) (by omega) (List.nodup_range.sublist List.filter_sublist) hlu (si,0,D.length) li (ui,0,D.length) ((countTo inn D.length : Nat) : Int) (di,0,D.length) (ints (out ++ [i])) (leftI D inn d) (fun j => leftI_le D hD inn d j) S1 hL1
    have hL3 : IntsObj S2 li D.length (leftI D inn (d.set i true)) := hL2.congr fun j hj => leftI_done D hD inn d i (by omega) hdf j hj
    have hI2 : BoolsAt S2 si inn := hK2.get hI1 (by simp) (by simp; exact h4)
    have hU2 : RowsObj S2 ui D.length (usersTo D inn D.length) := hK2.get hU1 (by simp) (by simp; exact Ne.symm h1)
    have hB2 : BoolsAt S2 di (d.set i true) := hK2.get hB1 (by simp) (by simp; exact Ne.symm h2)
    obtain ⟨S3,hK3,hr⟩ := oo_b2 hk D hD inn hin si li ui di h1 h2 h3 h4 h5 f (d.set i true) (out ++ [i]) m S2 (by simp [hd]) (by omega) (by simp; omega) (by omega) hI2 hL3 hU2 hB2
    refine ⟨S3,((hK1.weak (fun m hm => by simp at hm; simp [hm])).trans (hK2.weak (fun m hm => by simp at hm; simp [hm]))).trans hK3,fun q => ?_⟩
    rw [rounds_succ]
    unfold G.steps_plan_order_osl.b2
    dsimp only
    rw [ints_len,lt_nat,ifB_pos hlt]
    refine (hb3 _).trans ?_
    dsimp only [Option.getD_some]
    rw [show ((i : Int) == (D.length : Int)) = false by simp; omega,ifB_false,idxN_nat hil,hB.st (by omega),app_one (by rw [ints_len]; omega) (by rw [ints_len]; omega),ints_snoc,idxN_nat hil]
    refine (RowsObj.ld hU1 hil _).trans ?_
    rw [ints_len]
    refine (hb4 _).trans ?_
    exact hr q
theorem leftI_zero (D : List (List Nat)) (inn : List Bool) (n i : Nat) (hi : i < D.length) : leftTo D inn D.length i = leftI D inn (List.replicate n false) i := by
 have h := left_zero D n i hi
 unfold leftTo at h ⊢
 rw [decide_eq_true hi,allTrue _ _ hi] at h
 rw [decide_eq_true hi,Bool.true_and]
 unfold leftI
 cases inn.getD i false with
 | false => rfl
 | true => exact h
theorem pend_zero (inn : List Bool) (m : Nat) : ∀ n,pend inn (List.replicate m false) n = countTo inn n
 | 0 => rfl
 | n + 1 => by
  rw [pend_succ,countTo_succ,pend_zero inn m n]
  congr 1
  unfold leftAt
  rw [rep_false,Bool.not_false,Bool.and_true]
theorem order_some {k : Nat} (hk : Many k) (l : List Rule) (id : Nat) (f : ByteArray → Option Nat) (D : List (List Nat)) (hD : Rows D) (hl : D.length = l.length) (S : List LV) (hP : PlanAt S id l f (depsV D)) (si : Nat) (inn : List Bool) (hin : inn.length = D.length) (hI : BoolsAt S si inn) :
  ∃ S',Keeps S S' [] ∧ ∀ K : LL × Bool × Unit → List LV → Option R,G.steps_plan_order_osl.fn k ((id + 1,0),(si,0,D.length),()) S K =
   cond (orderedS D inn).2 (K (ints (orderedS D inn).1,true,()) S') (K ([],false,()) S') := by
 have hk' := hk
 unfold Many at hk'
 have h500 := hD.small.1
 have hid := lt_get hP.plan (by simp)
 have hsi : si < S.length := lt_get hI (by simp)
 let S1 := S ++ [intsO D.length (fun _ => 0)]
 let S2 := S1 ++ [rowsO D.length (fun _ => [])]
 have hK1 : Keeps S S1 [] := Keeps.app _ _ _
 have hK2 : Keeps S1 S2 [] := Keeps.app _ _ _
 have hl1 : S1.length = S.length + 1 := by simp [S1]
 have hl2 : S2.length = S.length + 2 := by simp [S2,hl1]
 have hI2 : BoolsAt S2 si inn := (hK1.trans hK2).get hI (by simp) (by simp)
 have hL : IntsObj S2 S.length D.length (leftTo D inn 0) := by
  have h : IntsObj S2 S.length D.length (fun _ => 0) := get_app _ (get_end _ _) (by simp [intsO])
  exact h.congr fun i _ => by simp [leftTo]
 have hU : RowsObj S2 S1.length D.length (usersTo D inn 0) := by
  have h : RowsObj S2 S1.length D.length (fun _ => []) := get_end _ _
  exact h
 obtain ⟨S3,⟨hL3,hU3,hK3⟩,hb0⟩ := oo_b0 (R := R) hk D hD inn hin (id + 1,0) si S.length S1.length (by omega) (by omega) (by omega) S2 hI2 hL hU
 let S4 := S3 ++ [.obj 4 (bools (List.replicate D.length false))]
 have hK4 : Keeps S3 S4 [] := Keeps.app _ _ _
 have hl3 := hK3.1
 have hI4 : BoolsAt S4 si inn := hK4.get (hK3.get hI2 (by simp) (by simp; omega)) (by simp) (by simp)
 obtain ⟨S5,hK5,hb2⟩ := oo_b2 (R := R) hk D hD inn hin si S.length S1.length S3.length (by omega) (by omega) (by omega) (by omega) (by omega) (D.length + 1) (List.replicate D.length false) [] k S4 (by simp) (by simp [List.count_replicate]) (by rw [pend_zero]; simp) (by omega) hI4
  ((show IntsObj S4 _ _ _ from hK4.get hL3 (by simp) (by simp)).congr fun i hi => leftI_zero D inn D.length i hi) (hK4.get hU3 (by simp) (by simp)) (by unfold BoolsAt; exact get_end _ _)
 have hK : Keeps S S5 [] := by
  refine Keeps.weak (M := [S.length,S1.length,S3.length]) ?_ (fun m hm => by simp at hm; omega)
  exact (hK1.weak (fun m hm => by simp at hm)).trans ((hK2.weak (fun m hm => by simp at hm)).trans ((hK3.weak (fun m hm => .inl (by simp at hm ⊢; omega))).trans ((hK4.weak (fun m hm => by simp at hm)).trans (hK5.weak (fun m hm => .inl (by simp at hm ⊢; omega))))))
 have hp1 : S1.getD (id + 1) .any = .obj 66 [.sl 8 (l.map Rule.lv),.map id,depsV D] := hK1.get hP.plan (by simp) (by simp)
 have hp2 : S2.getD (id + 1) .any = .obj 66 [.sl 8 (l.map Rule.lv),.map id,depsV D] := hK2.get hp1 (by simp) (by simp)
 have hp3 : S3.getD (id + 1) .any = .obj 66 [.sl 8 (l.map Rule.lv),.map id,depsV D] := hK3.get hp2 (by simp) (by simp; omega)
 refine ⟨S5,hK,fun K => ?_⟩
 unfold G.steps_plan_order_osl.fn
 dsimp only
 rw [at_of hP.plan,plan_l,List.length_map,← hl,ifB_pos rfl,mkN_nat (by omega) _ (by omega)]
 unfold newObj
 have e1 : LV.obj 3 (zeros D.length [.int .i64 0]) = intsO D.length (fun _ => 0) := by
  rw [zeros_nil]
  unfold intsO
  congr 1
  rw [List.map_const']
  simp
 have e2 : LV.obj 45 (zeros D.length [.nilsl]) = rowsO D.length (fun _ => []) := by
  rw [zeros_nil]
  unfold rowsO
  congr 1
  show _ = (List.range D.length).map fun _ => LV.nilsl
  rw [List.map_const']
  simp
 rw [e1,show S ++ [intsO D.length (fun _ => 0)] = S1 from rfl]
 dsimp only
 rw [at_of hp1,plan_l,List.length_map,← hl,ifB_pos rfl,mkN_nat (by omega) _ (by omega),e2,show S1 ++ [rowsO D.length (fun _ => [])] = S2 from rfl,at_of hp2,plan_deps,List.length_map]
 refine (hb0 _).trans ?_
 dsimp only
 rw [at_of hp3,plan_l,List.length_map,← hl,ifB_pos rfl,mkN_nat (by omega) _ (by omega),zeros_bool,show S3 ++ [LV.obj 4 (bools (List.replicate D.length false))] = S4 from rfl]
 exact hb2 (_,_)
end
end Go.Lm
set_option maxRecDepth 100000
namespace Go.Lm
section
variable {R : Type}
def TodoAt (b : Nat) (S : List LV) (v : LV) (T : List Nat) : Prop := (v = .nilsl ∧ T = []) ∨ ∃ id rest,b ≤ id ∧ v = .osl id 0 1 T.length ∧ S.getD id .any = .vec 3 (ints T ++ rest)
theorem flat_ints (l : List Nat) : flatC 1 (ints l) = ints l := by
 unfold flatC ints
 rw [show Nat.beq 1 1 = true from rfl]
 dsimp only
 rw [List.map_map]; rfl
theorem fits_ok {n m : Nat} (h : n + m ≤ 1000000) : fitsB n m 8 = true := by
 unfold fitsB
 exact decide_eq_true ⟨by omega,by omega⟩
theorem TodoAt.push {b : Nat} {S : List LV} {v : LV} {T : List Nat} (h : TodoAt b S v T) (hb : b ≤ S.length) (ys : List Nat) (hne : v = .nilsl → ys ≠ []) (hl : T.length + ys.length ≤ 1000000) :
  ∃ v' S',TodoAt b S' v' (T ++ ys) ∧ (∀ j,j < b → S'.getD j .any = S.getD j .any) ∧ S.length ≤ S'.length ∧ ∀ K : LV → List LV → Option R,appO 3 1 8 S v (ints ys) K = K v' S' := by
 rcases h with ⟨rfl,rfl⟩ | ⟨id,rest,hid,rfl,hS⟩
 ·refine ⟨.osl S.length 0 1 ys.length,S ++ [.vec 3 (ints ys)],.inr ⟨S.length,[],hb,rfl,by rw [List.append_nil]; exact get_end _ _⟩,fun j hj => (Keeps.app S [.vec 3 (ints ys)] []).2 j (by omega) (by simp),by simp,fun K => ?_⟩
  have h0 : 0 < ys.length := List.length_pos_iff.2 (hne rfl)
  unfold appO
  dsimp only
  rw [ints_len,show (Nat.blt 0 1 && Nat.blt 0 ys.length && fitsB 0 ys.length 8) = true by rw [show Nat.blt 0 ys.length = true from Nat.ble_eq_true_of_le h0,fits_ok (by simp at hl; omega)]; rfl,ifB_true,flat_ints]
 ·refine ⟨.osl S.length 0 1 (T.length + ys.length),S.set id .any ++ [.vec 3 (ints T ++ ints ys)],.inr ⟨S.length,[],hb,by rw [List.length_append],?_⟩,fun j hj => ?_,by simp,fun K => ?_⟩
  ·rw [List.append_nil]
   have := get_end (S.set id .any) (.vec 3 (ints T ++ ints ys))
   rw [List.length_set] at this
   rw [this]
   unfold ints
   rw [List.map_append]
  ·rcases Nat.lt_or_ge j S.length with h1 | h1
   ·rw [(Keeps.app (S.set id .any) [.vec 3 (ints T ++ ints ys)] []).2 j (by simpa using h1) (by simp)]
    exact other_set (by omega) _
   ·omega
  ·unfold appO
   dsimp only
   unfold cellsAt
   rw [hS]
   dsimp only
   rw [show (Nat.beq 3 3 && Nat.beq 0 0 && Nat.beq 1 1 && Nat.blt 0 1 && Nat.ble (T.length * 1) (ints T ++ rest).length && fitsB T.length (ints ys).length 8) = true by
    rw [ints_len,fits_ok hl,show Nat.ble (T.length * 1) (ints T ++ rest).length = true from Nat.ble_eq_true_of_le (by rw [List.length_append,ints_len]; omega)]; rfl,ifB_true,flat_ints,Nat.mul_one,ints_len]
   have : (ints T ++ rest).take T.length = ints T := by rw [← ints_len T,List.take_left]
   rw [this]
theorem TodoAt.keeps {b : Nat} {S S' : List LV} {v : LV} {T : List Nat} (h : TodoAt b S v T) {M : List Nat} (hk : Keeps S S' M) (hm : ∀ m ∈ M,m < b) : TodoAt b S' v T := by
 rcases h with h | ⟨id,rest,hid,hv,hS⟩
 ·exact .inl h
 ·exact .inr ⟨id,rest,hid,hv,hk.get hS (by simp) fun hc => by have := hm id hc; omega⟩
theorem Keeps.low {S0 S S' : List LV} {M : List Nat} (h : Keeps S0 S M) (h1 : ∀ j,j < S0.length → S'.getD j .any = S.getD j .any) (h2 : S.length ≤ S'.length) : Keeps S0 S' M :=
 ⟨Nat.le_trans h.1 h2,fun j hj hm => (h1 j hj).trans (h.2 j hj hm)⟩
def allFound (l : List Rule) (w : List ByteArray) : Bool := w.all fun s => (findS l s).isSome
def starts (l : List Rule) (w : List ByteArray) : List Nat := w.filterMap (findS l)
theorem starts_len (l : List Rule) (w : List ByteArray) : (starts l w).length ≤ w.length := List.length_filterMap_le _ _
theorem starts_lt {l : List Rule} {w : List ByteArray} {i : Nat} (h : i ∈ starts l w) : i < l.length := by
 obtain ⟨s,_,hs⟩ := List.mem_filterMap.1 h
 exact (findS_some hs).1
theorem cl_b0 {k : Nat} (hk : Many k) {l : List Rule} (hr : NamesRise l) (hn : l.length ≤ 500) {id : Nat} {f : ByteArray → Option Nat} {deps : LV} (w : List ByteArray) (hw : w.length ≤ 500) (si : Nat × Nat × Nat) (S0 : List LV) (hP : PlanAt S0 id l f deps) :
  ∀ (c i fuel : Nat) (v : LV) (S : List LV),i + c = w.length → c < fuel → Keeps S0 S [] → TodoAt S0.length S v (starts l (w.take i)) →
   ∃ v' S',Keeps S0 S' [] ∧ (allFound l (w.drop i) = true → TodoAt S0.length S' v' (starts l w)) ∧
    ∀ (J : N2 × N3 × LV × Unit → List LV → Option R) (Jret : LL × Int × Unit → List LV → Option R),rounds (G.steps_plan_closure.b0 k J Jret) fuel ((id + 1,0),si,v,w.map .str,(w.length : Int),(i : Int),()) S =
     cond (allFound l (w.drop i)) (J ((id + 1,0),si,v',()) S') (Jret ([],9,()) S')
 | 0,i,fuel,v,S,hc,hf,hK,hT => by
  obtain ⟨m,rfl⟩ : ∃ m,fuel = m + 1 := ⟨fuel - 1,by omega⟩
  have hi : i = w.length := by omega
  subst hi
  rw [List.take_length] at hT
  refine ⟨v,S,hK,fun _ => hT,fun J Jret => ?_⟩
  rw [rounds_succ,List.drop_length]
  unfold G.steps_plan_closure.b0
  dsimp only
  rw [lt_nat,ifB_neg (Nat.lt_irrefl _)]
  rfl
 | c + 1,i,fuel,v,S,hc,hf,hK,hT => by
  obtain ⟨m,rfl⟩ : ∃ m,fuel = m + 1 := ⟨fuel - 1,by omega⟩
  have hi : i < w.length := by omega
  have hdrop : w.drop i = w[i] :: w.drop (i + 1) := List.drop_eq_getElem_cons hi
  have htake : w.take (i + 1) = w.take i ++ [w[i]] := by rw [List.take_add_one,List.getElem?_eq_getElem hi]; rfl
  have hget : w.getD i (bs []) = w[i] := by rw [List.getD_eq_getElem?_getD,List.getElem?_eq_getElem hi]; rfl
  have hall : allFound l (w.drop i) = ((findS l w[i]).isSome && allFound l (w.drop (i + 1))) := by rw [hdrop]; rfl
  have hfind := fun K => prog_find (R := R) hk hr hn (hP.keeps hK (by simp) (by simp)) w[i] K
  rw [hall]
  cases hfs : findS l w[i] with
  | none =>
   rw [hfs] at hfind
   refine ⟨v,S,hK,fun h => by simp at h,fun J Jret => ?_⟩
   rw [rounds_succ]
   unfold G.steps_plan_closure.b0
   dsimp only
   rw [lt_nat,ifB_pos hi,idxL_nat (by simpa using hi),map_str_get w i hi,asLeaf_str,hget]
   refine (hfind _).trans ?_
   dsimp only
   rfl
  | some x =>
   rw [hfs] at hfind
   have hst : starts l (w.take (i + 1)) = starts l (w.take i) ++ [x] := by
    unfold starts
    rw [htake,List.filterMap_append,List.filterMap_cons,hfs]; rfl
   have hsl := starts_len l (w.take i)
   rw [List.length_take] at hsl
   obtain ⟨v1,S1,h1,h2,h3,h4⟩ := hT.push (R := R) (Nat.le_trans hK.1 (Nat.le_refl _)) [x] (fun _ => by simp) (by simp; omega)
   rw [← hst] at h1
   have hK1 : Keeps S0 S1 [] := hK.low h2 h3
   obtain ⟨v2,S2,h5,h7,h8⟩ := cl_b0 hk hr hn w hw si S0 hP c (i + 1) m v1 S1 (by omega) (by omega) hK1 h1
   refine ⟨v2,S2,h5,h7,fun J Jret => ?_⟩
   ·rw [rounds_succ]
    unfold G.steps_plan_closure.b0
    dsimp only
    rw [lt_nat,ifB_pos hi,idxL_nat (by simpa using hi),map_str_get w i hi,asLeaf_str,hget]
    refine (hfind _).trans ?_
    dsimp only
    have e : findI (some x) = (x : Int) := rfl
    rw [e,ifB_neg (by omega)]
    refine (h4 _).trans ?_
    rw [wrap_succ (by omega)]
    exact h8 J Jret
theorem lenD_osl (id n : Nat) (K : Nat → Option R) : lenO (dup (.osl id 0 1 n)) K = K n := rfl
theorem slD_osl (id n m : Nat) (h : m ≤ n) (K : LV → Option R) : slO 1 (dup (.osl id 0 1 n)) (m : Int) K = K (.osl id 0 1 m) := by
 show ifB (Nat.beq 1 1 && decide (0 ≤ (m : Int) ∧ (m : Int) ≤ (n : Int))) (K (.osl id 0 1 (m : Int).toNat)) none = _
 rw [decide_eq_true ⟨by omega,by omega⟩,Int.toNat_natCast]; rfl
theorem oslD (id n : Nat) (A : Nat → Nat → Nat → Nat → Option R) (B : Option R) : oslOr (dup (.osl id 0 1 n)) A B = A id 0 1 n := rfl
theorem at_vec {S : List LV} {id t : Nat} {xs : List LV} (h : S.getD id .any = .vec t xs) (K : (List LV → LV) → List LV → Option R) : objAt S id K = K (.vec t) xs := by
 unfold objAt
 rw [h]
theorem ld_last (T : List Nat) (x : Nat) (rest : List LV) (K : Int → Option R) : ldInt .i64 (ints (T ++ [x]) ++ rest) (0 + T.length * 1) K = K (x : Int) := by
 unfold ldInt
 have h : T.length < (ints (T ++ [x]) ++ rest).length := by rw [List.length_append,ints_len]; simp; omega
 rw [Nat.zero_add,Nat.mul_one,show Nat.blt T.length (ints (T ++ [x]) ++ rest).length = true from Nat.ble_eq_true_of_le h,ifB_true]
 have e : (ints (T ++ [x]) ++ rest).getD T.length .any = .int .i64 (x : Int) := by
  rw [List.getD_eq_getElem?_getD,List.getElem?_append_left (by rw [ints_len]; simp)]
  unfold ints
  simp
 rw [e]
 exact asInt_int _ _ _
theorem cl_b1 {k : Nat} (hk : Many k) {l : List Rule} {id : Nat} {f : ByteArray → Option Nat} {D : List (List Nat)} (hD : Rows D) (st : List Nat) (si : Nat) (S0 : List LV) (hP : PlanAt S0 id l f (depsV D)) (h1 : si ≠ id) (h2 : si ≠ id + 1) (hs0 : si < S0.length) :
  ∀ (m : Nat) (T : List Nat) (d : List Bool) (v : LV) (S : List LV) (fuel : Nat),d.count false * 501 + T.length ≤ m → m < fuel → m ≤ 400000 → d.length = D.length → Keeps S0 S [si] → TodoAt S0.length S v T → BoolsAt S si d →
   (∀ x ∈ T,Reach D st x ∧ x < D.length) → (∀ i,d.getD i false = true → Reach D st i) → (∀ i ∈ st,i ∈ T ∨ d.getD i false = true) → (∀ i,d.getD i false = true → ∀ j ∈ D.getD i [],j ∈ T ∨ d.getD j false = true) →
   ∃ d' S',Marks D st d' ∧ BoolsAt S' si d' ∧ Keeps S0 S' [si] ∧ ∀ J : N2 × N3 × Unit → List LV → Option R,rounds (G.steps_plan_closure.b1 k J) fuel ((id + 1,0),(si,0,D.length),v,()) S = J ((id + 1,0),(si,0,D.length),()) S' := by
 intro m
 induction m with
 | zero =>
  intro T d v S fuel hm hf hm4 hd hK hT hB c1 c2 c3 c4
  obtain ⟨fu,rfl⟩ : ∃ m,fuel = m + 1 := ⟨fuel - 1,by omega⟩
  have hT0 : T = [] := List.eq_nil_of_length_eq_zero (by omega)
  subst hT0
  refine ⟨d,S,Marks.of hd c2 (fun i hi => (c3 i hi).resolve_left (by simp)) (fun i hi j hj => (c4 i hi j hj).resolve_left (by simp)),hB,hK,fun J => ?_⟩
  rw [rounds_succ]
  unfold G.steps_plan_closure.b1
  rcases hT with ⟨rfl,_⟩ | ⟨tid,rest,hid,rfl,hS⟩ <;> rfl
 | succ m ih =>
  intro T d v S fuel hm hf hm4 hd hK hT hB c1 c2 c3 c4
  obtain ⟨fu,rfl⟩ : ∃ m,fuel = m + 1 := ⟨fuel - 1,by omega⟩
  rcases List.eq_nil_or_concat T with hT0 | ⟨T',x,hTx⟩
  ·subst hT0
   refine ⟨d,S,Marks.of hd c2 (fun i hi => (c3 i hi).resolve_left (by simp)) (fun i hi j hj => (c4 i hi j hj).resolve_left (by simp)),hB,hK,fun J => ?_⟩
   rw [rounds_succ]
   unfold G.steps_plan_closure.b1
   rcases hT with ⟨rfl,_⟩ | ⟨tid,rest,hid,rfl,hS⟩ <;> rfl
  ·rw [List.concat_eq_append] at hTx
   subst hTx
   rcases hT with ⟨_,hno⟩ | ⟨tid,rest,hid,rfl,hS⟩
   ·simp at hno
   ·have hlT : (T' ++ [x]).length = T'.length + 1 := by simp
    rw [hlT] at hm
    obtain ⟨hrx,hx⟩ := c1 x (by simp)
    have hxd : x < d.length := by omega
    have hT' : TodoAt S0.length S (.osl tid 0 1 T'.length) T' := by
     refine .inr ⟨tid,.int .i64 (x : Int) :: rest,hid,rfl,?_⟩
     rw [hS]
     congr 1
     unfold ints
     rw [List.map_append,List.append_assoc]; rfl
    have hP1 : PlanAt S id l f (depsV D) := hP.keeps hK (by simp; exact Ne.symm h1) (by simp; exact Ne.symm h2)
    have hstart : ∀ (J : N2 × N3 × Unit → List LV → Option R) (rec : N2 × N3 × LV × Unit → List LV → Option R),G.steps_plan_closure.b1 k J rec ((id + 1,0),(si,0,D.length),.osl tid 0 1 (T' ++ [x]).length,()) S =
      ifB (!(d.getD x false)) (G.steps_plan_closure.q0 k rec ((id + 1,0),(si,0,D.length),.osl tid 0 1 T'.length,(x : Int),()) (S.set si (.obj 4 (bools (d.set x true))))) (rec ((id + 1,0),(si,0,D.length),.osl tid 0 1 T'.length,()) S) := fun J rec => by
     unfold G.steps_plan_closure.b1
     dsimp only
     rw [hlT,lenD_osl,ifB_pos (by omega),lenD_osl,oslD]
     try dsimp only
     rw [show Nat.beq 1 1 = true from rfl,ifB_true,wrap_pred (by omega) (by omega),Nat.add_sub_cancel,idxN_nat (by omega),at_vec hS,ld_last,lenD_osl,wrap_pred (by omega) (by omega),Nat.add_sub_cancel,slD_osl _ _ _ (by omega),idxN_nat hx,hB.ld hxd,idxN_nat hx,hB.st hxd]
    cases hdx : d.getD x false with
    | true =>
     obtain ⟨d',S',g1,g2,g3,g4⟩ := ih T' d (.osl tid 0 1 T'.length) S fu (by omega) (by omega) (by omega) hd hK hT' hB (fun y hy => c1 y (by simp [hy])) c2
      (fun i hi => (c3 i hi).elim (fun h => (List.mem_append.1 h).elim .inl fun h => .inr (by simp at h; rw [h]; exact hdx)) .inr)
      (fun i hi j hj => (c4 i hi j hj).elim (fun h => (List.mem_append.1 h).elim .inl fun h => .inr (by simp at h; rw [h]; exact hdx)) .inr)
     refine ⟨d',S',g1,g2,g3,fun J => ?_⟩
     rw [rounds_succ,hstart,hdx,Bool.not_true,ifB_false]
     exact g4 J
    | false =>
     have hcs := count_set (d := d) hxd hdx
     have hK1 : Keeps S0 (S.set si (.obj 4 (bools (d.set x true)))) [si] := hK.trans (Keeps.set _ _ _)
     have hT1 : TodoAt S0.length (S.set si (.obj 4 (bools (d.set x true)))) (.osl tid 0 1 T'.length) T' := hT'.keeps (Keeps.set _ _ _) (fun m hm => by simp at hm; omega)
     have hl := (hD.small.get x hx).1
     obtain ⟨v2,S2,p1,p2,p3,p4⟩ := hT1.push (R := R) hK1.1 (D.getD x []) (fun h => by cases h) (by omega)
     have hK2 : Keeps S0 S2 [si] := hK1.low p2 p3
     have hB2 : BoolsAt S2 si (d.set x true) := by
      unfold BoolsAt
      rw [p2 si hs0]
      exact hB.set _
     have hget : ∀ j,(d.set x true).getD j false = true ↔ x = j ∨ d.getD j false = true := fun j => by rw [set_getD d x j hxd,Bool.or_eq_true,decide_eq_true_iff]
     obtain ⟨d',S',g1,g2,g3,g4⟩ := ih (T' ++ D.getD x []) (d.set x true) v2 S2 fu (by rw [List.length_append]; omega) (by omega) (by omega) (by simp [hd]) hK2 p1 hB2
      (fun y hy => (List.mem_append.1 hy).elim (fun h => c1 y (by simp [h])) fun h => ⟨.need hrx h,(hD.small.get x hx).2 y h⟩)
      (fun i hi => ((hget i).1 hi).elim (fun h => h ▸ hrx) (c2 i))
      (fun i hi => (c3 i hi).elim (fun h => (List.mem_append.1 h).elim (fun h => .inl (List.mem_append_left _ h)) fun h => .inr ((hget i).2 (.inl (by simp at h; exact h.symm)))) fun h => .inr ((hget i).2 (.inr h)))
      (fun i hi j hj => ((hget i).1 hi).elim (fun h => .inl (List.mem_append_right _ (h ▸ hj))) fun h => (c4 i h j hj).elim (fun h => (List.mem_append.1 h).elim (fun h => .inl (List.mem_append_left _ h)) fun h => .inr ((hget j).2 (.inl (by simp at h; exact h.symm)))) fun h => .inr ((hget j).2 (.inr h)))
     refine ⟨d',S',g1,g2,g3,fun J => ?_⟩
     rw [rounds_succ,hstart,hdx,Bool.not_false,ifB_true]
     unfold G.steps_plan_closure.q0
     dsimp only
     have hP2 := hP.keeps hK1 (by simp; exact Ne.symm h1) (by simp; exact Ne.symm h2)
     rw [at_of hP2.plan,plan_deps,row_at D x hx]
     refine (p4 _).trans ?_
     exact g4 J
end
end Go.Lm
set_option maxRecDepth 100000
namespace Go.Lm
section
variable {R : Type}
open Classical in
noncomputable def markS (D : List (List Nat)) (st : List Nat) : List Bool := (List.range D.length).map fun i => decide (Reach D st i)
theorem reach_lt {D : List (List Nat)} (hs : Small D) {st : List Nat} (h : ∀ i ∈ st,i < D.length) {i : Nat} (hr : Reach D st i) : i < D.length := by
 induction hr with
 | start h1 => exact h _ h1
 | need _ hj ih => exact (hs.get _ ih).2 _ hj
theorem markS_marks {D : List (List Nat)} (hs : Small D) {st : List Nat} (h : ∀ i ∈ st,i < D.length) : Marks D st (markS D st) := by
 refine ⟨by simp [markS],fun i => ?_⟩
 rcases Nat.lt_or_ge i D.length with hi | hi
 ·unfold markS
  simp [List.getD_eq_getElem?_getD,hi]
 ·have hl : (markS D st).length ≤ i := by simp [markS,hi]
  rw [List.getD_eq_getElem?_getD,List.getElem?_eq_none hl]
  exact ⟨fun h => by simp at h,fun hr => absurd (reach_lt hs h hr) (by omega)⟩
noncomputable def closeS (l : List Rule) (w : List ByteArray) : List Nat × Int := cond (decide (w.length > 500)) ([],2) (cond (allFound l w) ((orderedS (needsAll l) (markS (needsAll l) (starts l w))).1,0) ([],9))
theorem starts_lt' {l : List Rule} {w : List ByteArray} : ∀ i ∈ starts l w,i < (needsAll l).length := fun i h => by rw [needsAll_len]; exact starts_lt h
theorem close_marks {l : List Rule} (hn : l.length ≤ 500) (w : List ByteArray) : Marks (needsAll l) (starts l w) (markS (needsAll l) (starts l w)) := markS_marks (needs_small l hn) starts_lt'
theorem close_ok {l : List Rule} (hn : l.length ≤ 500) (hall : (orderedS (needsAll l) (List.replicate l.length true)).2 = true) (w : List ByteArray) : (orderedS (needsAll l) (markS (needsAll l) (starts l w))).2 = true :=
 orderedS_closed (needs_small l hn) (by rw [needsAll_len]; exact hall) (close_marks hn w).closed
theorem prog_closure {k : Nat} (hk : Many k) {l : List Rule} (hr : NamesRise l) (hn : l.length ≤ 500) (hall : (orderedS (needsAll l) (List.replicate l.length true)).2 = true) {id : Nat} {f : ByteArray → Option Nat} (w : List ByteArray) (S : List LV) (hP : PlanAt S id l f (depsV (needsAll l))) :
  ∃ S',Keeps S S' [] ∧ ∀ K : LL × Int × Unit → List LV → Option R,G.steps_plan_closure.fn k ((id + 1,0),w.map .str,()) S K = K (ints (closeS l w).1,(closeS l w).2,()) S' := by
 have hk' := hk
 unfold Many at hk'
 unfold G.steps_plan_closure.fn closeS
 try dsimp only
 have hwl : ((w.map LV.str).length : Int) = (w.length : Int) := by simp
 rw [hwl]
 rw [show decide ((w.length : Int) > 500) = decide (w.length > 500) from gt_nat w.length 500]
 by_cases hw : w.length > 500
 ·rw [decide_eq_true hw]
  exact ⟨S,Keeps.refl _ _,fun K => rfl⟩
 ·have hw5 : w.length ≤ 500 := by omega
  rw [decide_eq_false hw]
  have hid := lt_get hP.plan (by simp)
  let S0 := S ++ [.obj 4 (bools (List.replicate l.length false))]
  have hl0 : S0.length = S.length + 1 := by simp [S0]
  have hK0 : Keeps S S0 [] := Keeps.app _ _ _
  have hP0 : PlanAt S0 id l f (depsV (needsAll l)) := hP.keeps hK0 (by simp) (by simp)
  have hB0 : BoolsAt S0 S.length (List.replicate l.length false) := by unfold BoolsAt; exact get_end _ _
  have hrun : ∀ K : N2 × N3 × LV × LL × Int × Int × Unit → List LV → Option R,(objAt S (id + 1) fun ty c1 => ldSl 8 c1 (0 + 0) fun l2 => ifB (decide ((l2.length : Int) = (l2.length : Int))) (mkN (l2.length : Int) 1 fun m3 => newObj S (.obj 4 (zeros m3 [(.bool false)])) fun i4 S => K ((id + 1,0),(i4,0,m3),.nilsl,w.map .str,(w.length : Int),0,()) S) none) = K ((id + 1,0),(S.length,0,l.length),.nilsl,w.map .str,(w.length : Int),0,()) S0 := fun K => by
   rw [at_of hP.plan,plan_l,List.length_map,ifB_pos rfl,mkN_nat (by omega) _ (by omega)]
   unfold newObj
   dsimp only
   rw [zeros_bool]
  obtain ⟨v1,S1,a1,a2,a3⟩ := cl_b0 (R := R) hk hr hn w hw5 (S.length,0,l.length) S0 hP0 w.length 0 k .nilsl S0 (by omega) (by omega) (Keeps.refl _ _) (.inl ⟨rfl,by simp [starts]⟩)
  rw [List.drop_zero] at a2 a3
  cases hf : allFound l w with
  | false =>
   refine ⟨S1,hK0.trans a1,fun K => ?_⟩
   rw [ifB_false]
   refine (hrun fun x S => rounds (G.steps_plan_closure.b0 k (fun o10 S => rounds (G.steps_plan_closure.b1 k (fun o35 S => G.steps_plan_order_osl.fn k o35 S fun r36 S => K (r36.1,0,()) S)) k o10 S) K) k x S).trans ?_
   refine (a3 _ _).trans ?_
   rw [hf]; rfl
  | true =>
   have hT1 := a2 hf
   have hD := needs_rows l hn
   have hDl := needsAll_len l
   have hB1 : BoolsAt S1 S.length (List.replicate l.length false) := a1.get hB0 (by simp) (by simp)
   have hsl := starts_len l w
   obtain ⟨d',S2,b1,b2,b3,b4⟩ := cl_b1 (R := R) hk hD (starts l w) S.length S0 hP0 (by omega) (by omega) (by omega) (l.length * 501 + (starts l w).length) (starts l w) (List.replicate l.length false) v1 S1 k
    (by simp [List.count_replicate]) (by omega) (by omega) (by rw [hDl]; simp) (a1.weak (fun m hm => by simp at hm)) hT1 hB1 (fun x hx => ⟨.start hx,starts_lt' x hx⟩) (fun i hi => by rw [rep_false] at hi; cases hi) (fun i hi => .inl hi) (fun i hi => by rw [rep_false] at hi; cases hi)
   have hdm : d' = markS (needsAll l) (starts l w) := b1.uniq (close_marks hn w)
   rw [hDl] at b4
   obtain ⟨S3,c1,c2⟩ := order_some (R := R) hk l id f (needsAll l) hD hDl S2 (hP0.keeps b3 (by simp; omega) (by simp; omega)) S.length d' b1.len b2
   rw [hDl,hdm,close_ok hn hall w] at c2
   refine ⟨S3,Keeps.weak (M := [S.length]) ((hK0.weak (fun m hm => by simp at hm)).trans (b3.trans (c1.weak (fun m hm => by simp at hm)))) (fun m hm => by simp at hm; omega),fun K => ?_⟩
   rw [ifB_false]
   refine (hrun fun x S => rounds (G.steps_plan_closure.b0 k (fun o10 S => rounds (G.steps_plan_closure.b1 k (fun o35 S => G.steps_plan_order_osl.fn k o35 S fun r36 S => K (r36.1,0,()) S)) k o10 S) K) k x S).trans ?_
   refine (a3 _ _).trans ?_
   rw [hf,cond_true]
   refine (b4 _).trans ?_
   refine (c2 _).trans ?_
   rfl
def inOf (n : Nat) (row : List Nat) : List Bool := (List.range n).map fun j => row.contains j
theorem inOf_len (n : Nat) (row : List Nat) : (inOf n row).length = n := by simp [inOf]
theorem inOf_get (n : Nat) (row : List Nat) (i : Nat) (hi : i < n) : (inOf n row).getD i false = row.contains i := by
 unfold inOf
 simp [List.getD_eq_getElem?_getD,hi]
theorem inOf_set (n : Nat) (row : List Nat) (x : Nat) : (inOf n row).set x true = inOf n (row ++ [x]) := by
 unfold inOf
 apply List.ext_getElem?
 intro j
 rw [List.getElem?_set,List.getElem?_map,List.getElem?_map]
 rcases Nat.lt_or_ge j n with h | h
 ·rw [List.getElem?_range h]
  by_cases e : x = j
  ·subst e; simp [h]
  ·have e2 : (j == x) = false := by simp; omega
   simp [e,List.contains_append,Ne.symm e]
 ·have : (List.range n)[j]? = none := by simp [h]
  rw [this]
  by_cases e : x = j
  ·subst e; simp; omega
  ·simp [e]
def push1 (row : List Nat) (x : Nat) : List Nat := cond (row.contains x) row (row ++ [x])
def pushAll (row : List Nat) (l : List Nat) : List Nat := l.foldl push1 row
theorem pushAll_snoc (row l : List Nat) (x : Nat) : pushAll row (l ++ [x]) = push1 (pushAll row l) x := by unfold pushAll; rw [List.foldl_append]; rfl
theorem push1_mem (row : List Nat) (x i : Nat) : i ∈ push1 row x ↔ i ∈ row ∨ i = x := by
 unfold push1
 cases h : row.contains x with
 | true =>
  have hx : x ∈ row := by simpa using h
  exact ⟨.inl,fun h => h.elim (fun h => h) fun h => h ▸ hx⟩
 | false => rw [cond_false,List.mem_append,List.mem_singleton]
theorem pushAll_mem (l : List Nat) : ∀ (row : List Nat) (i : Nat),i ∈ pushAll row l ↔ i ∈ row ∨ i ∈ l := by
 induction l with
 | nil => intro row i; simp [pushAll]
 | cons x l ih =>
  intro row i
  show i ∈ pushAll (push1 row x) l ↔ _
  rw [ih,push1_mem,List.mem_cons]
  exact ⟨fun h => h.elim (fun h => h.elim .inl fun h => .inr (.inl h)) fun h => .inr (.inr h),fun h => h.elim (fun h => .inl (.inl h)) fun h => h.elim (fun h => .inl (.inr h)) .inr⟩
theorem pushAll_pre (l : List Nat) : ∀ row : List Nat,∃ e,pushAll row l = row ++ e := by
 induction l with
 | nil => intro row; exact ⟨[],by simp [pushAll]⟩
 | cons x l ih =>
  intro row
  obtain ⟨e,he⟩ := ih (push1 row x)
  show ∃ e,pushAll (push1 row x) l = row ++ e
  rw [he]
  unfold push1
  cases row.contains x
  ·exact ⟨[x] ++ e,by simp⟩
  ·exact ⟨e,rfl⟩
theorem pushAll_count (n : Nat) (l : List Nat) (hl : ∀ x ∈ l,x < n) : ∀ row : List Nat,(inOf n (pushAll row l)).count false + (pushAll row l).length = (inOf n row).count false + row.length := by
 induction l with
 | nil => intro row; rfl
 | cons x l ih =>
  intro row
  show (inOf n (pushAll (push1 row x) l)).count false + (pushAll (push1 row x) l).length = _
  rw [ih (fun y hy => hl y (by simp [hy]))]
  unfold push1
  cases h : row.contains x with
  | true => rfl
  | false =>
   have hx := hl x (by simp)
   have := count_set (d := inOf n row) (i := x) (by rw [inOf_len]; exact hx) (by rw [inOf_get n row x hx]; exact h)
   rw [cond_false,← inOf_set,List.length_append]
   simp
   omega
theorem pushAll_len (l : List Nat) : ∀ row : List Nat,(pushAll row l).length ≤ row.length + l.length := by
 induction l with
 | nil => intro row; simp [pushAll]
 | cons x l ih =>
  intro row
  have h := ih (push1 row x)
  have h1 : (push1 row x).length ≤ row.length + 1 := by
   unfold push1
   cases row.contains x <;> simp
  show (pushAll (push1 row x) l).length ≤ _
  rw [List.length_cons]
  omega
theorem take_snoc (l : List Nat) (t : Nat) (h : t < l.length) : l.take (t + 1) = l.take t ++ [l.getD t 0] := by
 rw [List.take_add_one,List.getElem?_eq_getElem h,List.getD_eq_getElem?_getD,List.getElem?_eq_getElem h]; rfl
theorem rp_b2 {k : Nat} (hk : Many k) (n : Nat) (hn : n ≤ 500) (id : Nat) (rows : LL) (at_ : Int) (own : List Nat) (ho : own.length ≤ 500) (hl : ∀ x ∈ own,x < n) (row : List Nat) (hrl : row.length ≤ 1000) (S : List LV) (hS : BoolsAt S id (inOf n row)) :
  ∃ S',(BoolsAt S' id (inOf n (pushAll row own)) ∧ Keeps S S' [id]) ∧ ∀ J : N3 × LL × LL × Int × Unit → List LV → Option R,rounds (G.smithyardref6_plan.b2 k J) k ((id,0,n),ints row,rows,at_,ints own,0,()) S = J ((id,0,n),ints (pushAll row own),rows,at_,()) S' := by
 have hk' := hk
 unfold Many at hk'
 have hL := loop_all (R := R) (b := fun J => G.smithyardref6_plan.b2 k J) (x := fun t => ((id,0,n),ints (pushAll row (own.take t)),rows,at_,ints own,(t : Int),())) (n := own.length)
  (Inv := fun t S1 => BoolsAt S1 id (inOf n (pushAll row (own.take t))) ∧ Keeps S S1 [id])
  (out := fun (J : N3 × LL × LL × Int × Unit → List LV → Option R) S' => J ((id,0,n),ints (pushAll row own),rows,at_,()) S')
  (fun t S1 ht hI => ?_) (fun J rec S1 hI => ?_) k (by omega) S ⟨hS,Keeps.refl _ _⟩
 ·obtain ⟨S',⟨h1,h2⟩,h3⟩ := hL
  rw [List.take_length] at h1
  exact ⟨S',⟨h1,h2⟩,h3⟩
 ·obtain ⟨h1,h2⟩ := hI
  have hx : own.getD t 0 < n := hl _ (nat_mem own t ht)
  have hpl := pushAll_len (own.take t) row
  rw [List.length_take] at hpl
  have hgo : ∀ (J : N3 × LL × LL × Int × Unit → List LV → Option R) (rec : N3 × LL × LL × Int × LL × Int × Unit → List LV → Option R),G.smithyardref6_plan.b2 k J rec ((id,0,n),ints (pushAll row (own.take t)),rows,at_,ints own,(t : Int),()) S1 =
    cond ((pushAll row (own.take t)).contains (own.getD t 0)) (rec ((id,0,n),ints (pushAll row (own.take t)),rows,at_,ints own,((t + 1 : Nat) : Int),()) S1)
     (rec ((id,0,n),ints (pushAll row (own.take t) ++ [own.getD t 0]),rows,at_,ints own,((t + 1 : Nat) : Int),()) (S1.set id (.obj 4 (bools ((inOf n (pushAll row (own.take t))).set (own.getD t 0) true))))) := fun J rec => by
   unfold G.smithyardref6_plan.b2 G.smithyardref6_plan.q1
   dsimp only
   have hix : ∀ K : Int → Option R,(idxL (ints own) (t : Int) fun v => asInt .i64 (leaf v 0) K) = K ((own.getD t 0 : Nat) : Int) := fun K => by rw [idxL_nat (by rw [ints_len]; exact ht),ints_get own t ht,leaf_int]
   rw [ints_len,lt_nat,ifB_pos ht,hix,idxN_nat hx,h1.ld (by rw [inOf_len]; exact hx),inOf_get n _ _ hx,wrap_succ (by omega)]
   cases (pushAll row (own.take t)).contains (own.getD t 0) with
   | true => rfl
   | false =>
    rw [Bool.not_false,ifB_true,hix,idxN_nat hx,h1.st (by rw [inOf_len]; exact hx),hix,app_one (by rw [ints_len]; omega) (by rw [ints_len]; omega),ints_snoc]
    rfl
  rw [take_snoc own t ht,pushAll_snoc]
  unfold push1
  cases hc : (pushAll row (own.take t)).contains (own.getD t 0) with
  | true =>
   refine ⟨S1,⟨h1,h2⟩,fun J rec => ?_⟩
   try dsimp only
   rw [hgo,hc]; rfl
  | false =>
   refine ⟨S1.set id (.obj 4 (bools ((inOf n (pushAll row (own.take t))).set (own.getD t 0) true))),⟨?_,h2.trans (Keeps.set _ _ _)⟩,fun J rec => ?_⟩
   ·have := h1.set ((inOf n (pushAll row (own.take t))).set (own.getD t 0) true)
    rw [inOf_set] at this ⊢
    exact this
   ·try dsimp only
    rw [hgo,hc]; rfl
 ·unfold G.smithyardref6_plan.b2
  dsimp only
  rw [ints_len,lt_nat,ifB_neg (Nat.lt_irrefl _),List.take_length]
end
end Go.Lm
set_option maxRecDepth 100000
namespace Go.Lm
section
variable {R : Type}
theorem inOf_true (n : Nat) (row : List Nat) (i : Nat) : (inOf n row).getD i false = true ↔ i < n ∧ i ∈ row := by
 rcases Nat.lt_or_ge i n with h | h
 ·rw [inOf_get n row i h,List.contains_iff_mem]
  exact ⟨fun h1 => ⟨h,h1⟩,fun h1 => h1.2⟩
 ·rw [List.getD_eq_getElem?_getD,List.getElem?_eq_none (by rw [inOf_len]; exact h)]
  exact ⟨fun h1 => by simp at h1,fun h1 => absurd h1.1 (by omega)⟩
theorem nat_at {row : List Nat} {i : Nat} (h : i ∈ row) : ∃ p,p < row.length ∧ row.getD p 0 = i := by
 obtain ⟨p,hp,e⟩ := List.mem_iff_getElem.1 h
 exact ⟨p,hp,by rw [List.getD_eq_getElem?_getD,List.getElem?_eq_getElem hp]; exact e⟩
theorem rp_b1 {k : Nat} (hk : Many k) {l : List Rule} (hn : l.length ≤ 500) (st : List Nat) (id : Nat) :
  ∀ (c at_ : Nat) (row : List Nat) (S : List LV) (fuel : Nat),at_ + c = l.length → c < fuel → at_ ≤ row.length → (inOf l.length row).count false + row.length = l.length → (∀ x ∈ row,x < l.length ∧ Reach (needsAll l) st x) → (∀ i ∈ st,i ∈ row) → (∀ p,p < at_ → ∀ j ∈ (needsAll l).getD (row.getD p 0) [],j ∈ row) → BoolsAt S id (inOf l.length row) →
   ∃ row' S',Marks (needsAll l) st (inOf l.length row') ∧ BoolsAt S' id (inOf l.length row') ∧ Keeps S S' [id] ∧ ∀ J : N3 × LL × Unit → List LV → Option R,rounds (G.smithyardref6_plan.b1 k J) fuel ((id,0,l.length),ints row,refRows l,(at_ : Int),()) S = J ((id,0,l.length),refRows l,()) S' := by
 intro c
 induction c with
 | zero =>
  intro at_ row S fuel hc hf ha hcn hrow hst hcl hS
  obtain ⟨fu,rfl⟩ : ∃ m,fuel = m + 1 := ⟨fuel - 1,by omega⟩
  have hal : at_ = row.length := by omega
  refine ⟨row,S,Marks.of (by rw [inOf_len,needsAll_len]) (fun i hi => (hrow i ((inOf_true _ _ _).1 hi).2).2) (fun i hi => (inOf_true _ _ _).2 ⟨(hrow i (hst i hi)).1,hst i hi⟩) (fun i hi j hj => ?_),hS,Keeps.refl _ _,fun J => ?_⟩
  ·obtain ⟨p,hp,e⟩ := nat_at ((inOf_true _ _ _).1 hi).2
   have := hcl p (by omega) j (by rw [e]; exact hj)
   exact (inOf_true _ _ _).2 ⟨(hrow j this).1,this⟩
  ·rw [rounds_succ]
   unfold G.smithyardref6_plan.b1
   dsimp only
   rw [ints_len,lt_nat,ifB_neg (by omega)]
 | succ c ih =>
  intro at_ row S fuel hc hf ha hcn hrow hst hcl hS
  obtain ⟨fu,rfl⟩ : ∃ m,fuel = m + 1 := ⟨fuel - 1,by omega⟩
  rcases Nat.lt_or_ge at_ row.length with hal | hal
  ·obtain ⟨hx,hrx⟩ := hrow _ (nat_mem row at_ hal)
   have hsm := (needs_small l hn).get (row.getD at_ 0) (by rw [needsAll_len]; exact hx)
   rw [needsAll_len] at hsm
   obtain ⟨S1,⟨h1,h2⟩,h3⟩ := rp_b2 (R := R) hk l.length hn id (refRows l) (at_ : Int) ((needsAll l).getD (row.getD at_ 0) []) hsm.1 hsm.2 row (by omega) S hS
   obtain ⟨e,he⟩ := pushAll_pre ((needsAll l).getD (row.getD at_ 0) []) row
   have hget : ∀ p,p < row.length → (pushAll row ((needsAll l).getD (row.getD at_ 0) [])).getD p 0 = row.getD p 0 := fun p hp => by
    rw [he,List.getD_eq_getElem?_getD,List.getElem?_append_left hp,← List.getD_eq_getElem?_getD]
   have hlen : row.length ≤ (pushAll row ((needsAll l).getD (row.getD at_ 0) [])).length := by rw [he]; simp
   obtain ⟨row',S',g1,g2,g3,g4⟩ := ih (at_ + 1) (pushAll row ((needsAll l).getD (row.getD at_ 0) [])) S1 fu (by omega) (by omega) (by omega) (by rw [pushAll_count l.length _ hsm.2]; exact hcn)
    (fun x hx => ((pushAll_mem _ _ _).1 hx).elim (hrow x) fun h => ⟨hsm.2 x h,.need hrx h⟩) (fun i hi => (pushAll_mem _ _ _).2 (.inl (hst i hi)))
    (fun p hp j hj => by
     rw [hget p (by omega)] at hj
     rcases Nat.lt_or_ge p at_ with h | h
     ·exact (pushAll_mem _ _ _).2 (.inl (hcl p h j hj))
     ·have : p = at_ := by omega
      subst this
      exact (pushAll_mem _ _ _).2 (.inr hj)) h1
   refine ⟨row',S',g1,g2,h2.trans g3,fun J => ?_⟩
   rw [rounds_succ]
   unfold G.smithyardref6_plan.b1
   dsimp only
   have hrl : (refRows l).length = l.length := by simp [refRows]
   rw [ints_len,lt_nat,ifB_pos hal,idxL_nat (by rw [ints_len]; exact hal),ints_get row at_ hal,leaf_int,idxL_nat (by rw [hrl]; exact hx),(refRows_at l).2 _ (by rw [needsAll_len]; exact hx)]
   refine (h3 _).trans ?_
   dsimp only
   rw [wrap_succ (by omega)]
   exact g4 J
  ·have hal : at_ = row.length := by omega
   refine ⟨row,S,Marks.of (by rw [inOf_len,needsAll_len]) (fun i hi => (hrow i ((inOf_true _ _ _).1 hi).2).2) (fun i hi => (inOf_true _ _ _).2 ⟨(hrow i (hst i hi)).1,hst i hi⟩) (fun i hi j hj => ?_),hS,Keeps.refl _ _,fun J => ?_⟩
   ·obtain ⟨p,hp,e⟩ := nat_at ((inOf_true _ _ _).1 hi).2
    have := hcl p (by omega) j (by rw [e]; exact hj)
    exact (inOf_true _ _ _).2 ⟨(hrow j this).1,this⟩
   ·rw [rounds_succ]
    unfold G.smithyardref6_plan.b1
    dsimp only
    rw [ints_len,lt_nat,ifB_neg (by omega)]
theorem rp_b0 {k : Nat} (hk : Many k) {l : List Rule} (hn : l.length ≤ 500) (w : List ByteArray) (hw : w.length ≤ 500) (id : Nat) :
  ∀ (c i fuel : Nat) (S : List LV),i + c = w.length → c < fuel → BoolsAt S id (inOf l.length (pushAll [] (starts l (w.take i)))) →
   ∃ S',Keeps S S' [id] ∧ (allFound l (w.drop i) = true → BoolsAt S' id (inOf l.length (pushAll [] (starts l w)))) ∧
    ∀ (J : LL × N3 × LL × Unit → List LV → Option R) (Jret : LL × Int × Unit → List LV → Option R),rounds (G.smithyardref6_plan.b0 k J Jret) fuel (l.map Rule.lv,w.map .str,(id,0,l.length),ints (pushAll [] (starts l (w.take i))),(i : Int),()) S =
     cond (allFound l (w.drop i)) (J (l.map Rule.lv,(id,0,l.length),ints (pushAll [] (starts l w)),()) S') (Jret ([],9,()) S')
 | 0,i,fuel,S,hc,hf,hS => by
  obtain ⟨m,rfl⟩ : ∃ m,fuel = m + 1 := ⟨fuel - 1,by omega⟩
  have hi : i = w.length := by omega
  subst hi
  rw [List.take_length] at hS
  refine ⟨S,Keeps.refl _ _,fun _ => hS,fun J Jret => ?_⟩
  rw [rounds_succ,List.drop_length,List.take_length]
  unfold G.smithyardref6_plan.b0
  dsimp only
  rw [List.length_map,lt_nat,ifB_neg (Nat.lt_irrefl _)]
  rfl
 | c + 1,i,fuel,S,hc,hf,hS => by
  have hk' := hk
  unfold Many at hk'
  obtain ⟨m,rfl⟩ : ∃ m,fuel = m + 1 := ⟨fuel - 1,by omega⟩
  have hi : i < w.length := by omega
  have hdrop : w.drop i = w[i] :: w.drop (i + 1) := List.drop_eq_getElem_cons hi
  have htake : w.take (i + 1) = w.take i ++ [w[i]] := by rw [List.take_add_one,List.getElem?_eq_getElem hi]; rfl
  have hget : w.getD i (bs []) = w[i] := by rw [List.getD_eq_getElem?_getD,List.getElem?_eq_getElem hi]; rfl
  have hall : allFound l (w.drop i) = ((findS l w[i]).isSome && allFound l (w.drop (i + 1))) := by rw [hdrop]; rfl
  have hfind := fun K => ref_find (R := R) hk l hn w[i] S K
  rw [hall]
  cases hfs : findS l w[i] with
  | none =>
   rw [hfs] at hfind
   refine ⟨S,Keeps.refl _ _,fun h => by simp at h,fun J Jret => ?_⟩
   rw [rounds_succ]
   unfold G.smithyardref6_plan.b0
   dsimp only
   rw [List.length_map,lt_nat,ifB_pos hi,idxL_nat (by simpa using hi),map_str_get w i hi,asLeaf_str,hget]
   refine (hfind _).trans ?_
   rfl
  | some x =>
   rw [hfs] at hfind
   have hx := (findS_some hfs).1
   have hst : starts l (w.take (i + 1)) = starts l (w.take i) ++ [x] := by
    unfold starts
    rw [htake,List.filterMap_append,List.filterMap_cons,hfs]; rfl
   have hpa : pushAll [] (starts l (w.take (i + 1))) = push1 (pushAll [] (starts l (w.take i))) x := by rw [hst,pushAll_snoc]
   have hsl := starts_len l (w.take i)
   have hpl := pushAll_len (starts l (w.take i)) []
   rw [List.length_take] at hsl
   have hgo : ∀ (J : LL × N3 × LL × Unit → List LV → Option R) (Jret : LL × Int × Unit → List LV → Option R) (rec : LL × LL × N3 × LL × Int × Unit → List LV → Option R),G.smithyardref6_plan.b0 k J Jret rec (l.map Rule.lv,w.map .str,(id,0,l.length),ints (pushAll [] (starts l (w.take i))),(i : Int),()) S =
     cond ((pushAll [] (starts l (w.take i))).contains x) (rec (l.map Rule.lv,w.map .str,(id,0,l.length),ints (pushAll [] (starts l (w.take i))),((i + 1 : Nat) : Int),()) S)
      (rec (l.map Rule.lv,w.map .str,(id,0,l.length),ints (pushAll [] (starts l (w.take i)) ++ [x]),((i + 1 : Nat) : Int),()) (S.set id (.obj 4 (bools ((inOf l.length (pushAll [] (starts l (w.take i)))).set x true))))) := fun J Jret rec => by
    unfold G.smithyardref6_plan.b0 G.smithyardref6_plan.q0
    dsimp only
    rw [List.length_map,lt_nat,ifB_pos hi,idxL_nat (by simpa using hi),map_str_get w i hi,asLeaf_str,hget]
    refine (hfind _).trans ?_
    have e : findI (some x) = (x : Int) := rfl
    dsimp only
    rw [e,ifB_neg (by omega),idxN_nat hx,hS.ld (by rw [inOf_len]; exact hx),inOf_get _ _ _ hx,wrap_succ (by omega)]
    cases (pushAll [] (starts l (w.take i))).contains x with
    | true => rfl
    | false =>
     rw [Bool.not_false,ifB_true,idxN_nat hx,hS.st (by rw [inOf_len]; exact hx),app_one (by rw [ints_len]; simp at hpl; omega) (by rw [ints_len]; simp at hpl; omega),ints_snoc]
     rfl
   cases hc2 : (pushAll [] (starts l (w.take i))).contains x with
   | true =>
    have e2 : pushAll [] (starts l (w.take (i + 1))) = pushAll [] (starts l (w.take i)) := by rw [hpa]; unfold push1; rw [hc2]; rfl
    obtain ⟨S2,a1,a2,a3⟩ := rp_b0 hk hn w hw id c (i + 1) m S (by omega) (by omega) (by rw [e2]; exact hS)
    refine ⟨S2,a1,a2,fun J Jret => ?_⟩
    rw [rounds_succ,hgo,hc2]
    have := a3 J Jret
    rw [e2] at this
    exact this
   | false =>
    have e2 : pushAll [] (starts l (w.take (i + 1))) = pushAll [] (starts l (w.take i)) ++ [x] := by rw [hpa]; unfold push1; rw [hc2]; rfl
    have hS1 := hS.set ((inOf l.length (pushAll [] (starts l (w.take i)))).set x true)
    obtain ⟨S2,a1,a2,a3⟩ := rp_b0 hk hn w hw id c (i + 1) m (S.set id (.obj 4 (bools ((inOf l.length (pushAll [] (starts l (w.take i)))).set x true)))) (by omega) (by omega) (by rw [e2,← inOf_set]; exact hS1)
    refine ⟨S2,(Keeps.set _ _ _).trans a1,a2,fun J Jret => ?_⟩
    rw [rounds_succ,hgo,hc2]
    have := a3 J Jret
    rw [e2] at this
    exact this
noncomputable def planS (l : List Rule) (w : List ByteArray) : List Nat × Int := cond (checkRulesS l == 0) (closeS l w) ([],checkRulesS l)
theorem ref_plan {k : Nat} (hk : Many k) (l : List Rule) (ok : RulesOk l) (w : List ByteArray) (S : List LV) (K : LL × Int × Unit → List LV → Option R) : G.smithyardref6_plan.fn k (l.map Rule.lv,w.map .str,()) S K = K (ints (planS l w).1,(planS l w).2,()) S := by
 have hk' := hk
 unfold Many at hk'
 have hrun : ∃ S',Keeps S S' [] ∧ ∀ K : LL × Int × Unit → List LV → Option (LV × List LV),G.smithyardref6_plan.fn0 k (l.map Rule.lv,w.map .str,()) S K = K (ints (planS l w).1,(planS l w).2,()) S' := by
  unfold G.smithyardref6_plan.fn0 planS
  try dsimp only
  have hwl : ((w.map LV.str).length : Int) = (w.length : Int) := by simp
  rw [hwl,show decide ((w.length : Int) > 500) = decide (w.length > 500) from gt_nat w.length 500]
  cases hc : checkRulesS l == 0 with
  | false =>
   refine ⟨S,Keeps.refl _ _,fun K => ?_⟩
   rw [ref_CheckRules hk l ok]
   dsimp only
   rw [ne0,hc]; rfl
  | true =>
   have h0 := eq_of_beq hc
   have hn := small_of h0
   have hstart : ∀ (K : Int × Unit → List LV → Option (LV × List LV)),G.smithyardref6_CheckRules.fn k (l.map Rule.lv,()) S K = K (0,()) S := fun K => by rw [ref_CheckRules hk l ok,h0]
   unfold closeS
   by_cases hw : w.length > 500
   ·rw [decide_eq_true hw]
    exact ⟨S,Keeps.refl _ _,fun K => (hstart _).trans rfl⟩
   ·rw [decide_eq_false hw]
    have hw5 : w.length ≤ 500 := by omega
    let S0 := S ++ [.obj 4 (bools (List.replicate l.length false))]
    have hl0 : S0.length = S.length + 1 := by simp [S0]
    have hK0 : Keeps S S0 [] := Keeps.app _ _ _
    have hin0 : inOf l.length [] = List.replicate l.length false := by
     unfold inOf
     show ((List.range l.length).map fun _ => false) = _
     rw [List.map_const']; simp
    have hB0 : BoolsAt S0 S.length (inOf l.length (pushAll [] (starts l (w.take 0)))) := by
     rw [List.take_zero]
     show BoolsAt S0 S.length (inOf l.length [])
     rw [hin0]; unfold BoolsAt; exact get_end _ _
    have hmk : ∀ (K : Nat → Nat → List LV → Option (LV × List LV)),(ifB (decide (((l.map Rule.lv).length : Int) = ((l.map Rule.lv).length : Int))) (mkN ((l.map Rule.lv).length : Int) 1 fun m2 => newObj S (.obj 4 (zeros m2 [(.bool false)])) fun i3 S => K m2 i3 S) none) = K l.length S.length S0 := fun K => by
     rw [ifB_pos rfl,List.length_map,mkN_nat (by omega) _ (by omega)]
     unfold newObj
     rw [zeros_bool]
    obtain ⟨S1,a1,a2,a3⟩ := rp_b0 (R := LV × List LV) hk hn w hw5 S.length w.length 0 k S0 (by omega) (by omega) hB0
    rw [List.drop_zero] at a2 a3
    cases hf : allFound l w with
    | false =>
     refine ⟨S1,Keeps.weak (M := [S.length]) ((hK0.weak (fun m hm => by simp at hm)).trans a1) (fun m hm => by simp at hm; omega),fun K => ?_⟩
     refine (hstart _).trans ?_
     refine Eq.trans (hmk _) ?_
     refine (a3 _ _).trans ?_
     rw [hf]; rfl
    | true =>
     have hB1 := a2 hf
     have hcn : (inOf l.length (pushAll [] (starts l w))).count false + (pushAll [] (starts l w)).length = l.length := by
      rw [pushAll_count l.length _ (fun x hx => starts_lt hx),hin0]
      simp [List.count_replicate]
     obtain ⟨row,S2,b1,b2,b3,b4⟩ := rp_b1 (R := LV × List LV) hk hn (starts l w) S.length l.length 0 (pushAll [] (starts l w)) S1 k (by omega) (by omega) (by omega) hcn
      (fun x hx => ((pushAll_mem _ _ _).1 hx).elim (fun h => by simp at h) fun h => ⟨starts_lt h,.start h⟩) (fun i hi => (pushAll_mem _ _ _).2 (.inr hi)) (fun p hp => absurd hp (by omega)) hB1
     have hm : inOf l.length row = markS (needsAll l) (starts l w) := b1.uniq (close_marks hn w)
     refine ⟨S2.set S.length .any,Keeps.weak (M := [S.length]) (((hK0.weak (fun m hm => by simp at hm)).trans (a1.trans b3)).trans (Keeps.set _ _ _)) (fun m hm => by simp at hm; omega),fun K => ?_⟩
     refine (hstart _).trans ?_
     refine Eq.trans (hmk _) ?_
     refine (a3 _ _).trans ?_
     rw [hf,cond_true]
     rw [ref_needs hk l ok hn]
     refine (b4 _).trans ?_
     dsimp only
     rw [at_of b2]
     have e : (Nat.beq 0 0 && Nat.beq (l.length * 1) (bools (inOf l.length row)).length && Nat.blt 0 1 && Nat.ble l.length 9223372036854775807) = true := by
      rw [bools_len,inOf_len,Nat.mul_one,Nat.beq_refl,Nat.beq_refl,Nat.ble_eq_true_of_le (show l.length ≤ 9223372036854775807 by omega)]; rfl
     rw [e,ifB_true,setS_of,chunks_one,bools_dup,ref_ordered hk (refRows l) (needsAll l) (refRows_at l) (needs_small l hn) _ (by rw [inOf_len,needsAll_len]),hm]
     rfl
 obtain ⟨S',hK,h⟩ := hrun
 obtain ⟨G',hG⟩ := hK.grown
 unfold G.smithyardref6_plan.fn
 refine popK_at (rs := G.smithyardref6_plan.rs) (r := ((ints (planS l w).1,(planS l w).2,()) : LL × Int × Unit)) (G := G') ?_ ?_
 ·rw [← hG]; exact h _
 ·show ([LV.own 3 1 (ints (planS l w).1),.int .i64 (planS l w).2].all (noId 5)) = true
  have h : noId 5 (LV.own 3 1 (ints (planS l w).1)) = true := ints_noId 4 _
  rw [List.all_cons,h]; rfl
end
end Go.Lm
set_option maxRecDepth 100000
namespace Go.Lm
section
variable {R : Type}
theorem ordS_len (D : List (List Nat)) (inn : List Bool) : ∀ (f : Nat) (d : List Bool) (out : List Nat),d.length = D.length → out.length + d.count false ≤ D.length → (ordS D inn f d out).1.length ≤ D.length
 | 0,d,out,hd,ho => by show out.length ≤ _; omega
 | f + 1,d,out,hd,ho => by
  unfold ordS
  cases hn : nextS D inn d with
  | none => show out.length ≤ _; omega
  | some i =>
   obtain ⟨hil,hg⟩ := nextS_some hn
   have hc := count_set (d := d) (by omega) (goodAt_iff.1 hg).2.1
   exact ordS_len D inn f (d.set i true) (out ++ [i]) (by simp [hd]) (by simp; omega)
theorem orderedS_len (D : List (List Nat)) (inn : List Bool) : (orderedS D inn).1.length ≤ D.length :=
 ordS_len D inn _ _ _ (by simp) (by simp [List.count_replicate])
theorem planS_len (l : List Rule) (w : List ByteArray) : (planS l w).1.length ≤ l.length := by
 unfold planS closeS
 cases checkRulesS l == 0 with
 | false => exact Nat.zero_le _
 | true =>
  cases decide (w.length > 500) with
  | true => exact Nat.zero_le _
  | false =>
   cases allFound l w with
   | false => exact Nat.zero_le _
   | true =>
    have := orderedS_len (needsAll l) (markS (needsAll l) (starts l w))
    rw [needsAll_len] at this
    exact this
theorem planS_lt (l : List Rule) (w : List ByteArray) : ∀ i ∈ (planS l w).1,i < l.length := by
 unfold planS closeS
 cases checkRulesS l == 0 with
 | false => exact fun i h => by simp at h
 | true =>
  cases decide (w.length > 500) with
  | true => exact fun i h => by simp at h
  | false =>
   cases allFound l w with
   | false => exact fun i h => by simp at h
   | true =>
    intro i h
    have := (orderedS_ordered (needsAll l) (markS (needsAll l) (starts l w))).mem i h
    rw [needsAll_len] at this
    exact this.1
theorem planS_small (l : List Rule) (w : List ByteArray) : (planS l w).1.length ≤ 500 := by
 cases hc : checkRulesS l == 0 with
 | true => have := planS_len l w; have := small_of (eq_of_beq hc); omega
 | false => unfold planS; rw [hc]; exact Nat.zero_le _
def namesOf (l : List Rule) (x : List Nat) : List LV := x.map fun i => .str (ruleName l i)
theorem namesOf_len (l : List Rule) (x : List Nat) : (namesOf l x).length = x.length := by simp [namesOf]
theorem namesOf_snoc (l : List Rule) (x : List Nat) (i : Nat) : namesOf l x ++ [.str (ruleName l i)] = namesOf l (x ++ [i]) := by simp [namesOf]
theorem names_noId (n : Nat) (l : List Rule) (x : List Nat) : (namesOf l x).all (noId n) = true := by
 unfold namesOf
 rw [List.all_map,List.all_eq_true]
 intro i _
 cases n <;> rfl
theorem po_b0 {k : Nat} (hk : Many k) (l : List Rule) (x : List Nat) (hx : ∀ i ∈ x,i < l.length) (hl : x.length ≤ 500) (f : Int) (S : List LV) (J : Int × LL × Unit → List LV → Option R) :
  rounds (G.steps_Order.b0 k J) k (l.map Rule.lv,f,[],ints x,(x.length : Int),0,()) S = J (f,namesOf l x,()) S := by
 have hk' := hk
 unfold Many at hk'
 refine (rounds_scan0 (fun i => (l.map Rule.lv,f,namesOf l (x.take i),ints x,(x.length : Int),(i : Int),())) S x.length k (fun _ => none) (J (f,namesOf l x,()) S) (fun rec i hi => ?_) (fun rec => ?_) (by omega)).trans (scan_none _ _ (fun _ _ _ => rfl))
 ·unfold G.steps_Order.b0
  dsimp only
  have ht : (namesOf l (x.take i)).length ≤ 500 := by rw [namesOf_len,List.length_take]; omega
  rw [lt_nat,ifB_pos hi,idxL_nat (by rw [ints_len]; exact hi),ints_get x i hi,leaf_int,name_at l _ (hx _ (nat_mem x i hi)),app_one (by omega) (by omega),namesOf_snoc,← take_snoc x i hi,wrap_succ (by omega)]
 ·unfold G.steps_Order.b0
  dsimp only
  rw [lt_nat,ifB_neg (Nat.lt_irrefl _),List.take_length]
theorem ro_b0 {k : Nat} (hk : Many k) (l : List Rule) (x : List Nat) (hx : ∀ i ∈ x,i < l.length) (hl : x.length ≤ 500) (S : List LV) (J : LL × Unit → List LV → Option R) :
  rounds (G.smithyardref6_Order.b0 k J) k (l.map Rule.lv,ints x,[],0,()) S = J (namesOf l x,()) S := by
 have hk' := hk
 unfold Many at hk'
 refine (rounds_scan0 (fun i => (l.map Rule.lv,ints x,namesOf l (x.take i),(i : Int),())) S x.length k (fun _ => none) (J (namesOf l x,()) S) (fun rec i hi => ?_) (fun rec => ?_) (by omega)).trans (scan_none _ _ (fun _ _ _ => rfl))
 ·unfold G.smithyardref6_Order.b0
  dsimp only
  have ht : (namesOf l (x.take i)).length ≤ 500 := by rw [namesOf_len,List.length_take]; omega
  rw [ints_len,lt_nat,ifB_pos hi,idxL_nat (by rw [ints_len]; exact hi),ints_get x i hi,leaf_int,name_at l _ (hx _ (nat_mem x i hi)),app_one (by omega) (by omega),namesOf_snoc,← take_snoc x i hi,wrap_succ (by omega)]
 ·unfold G.smithyardref6_Order.b0
  dsimp only
  rw [ints_len,lt_nat,ifB_neg (Nat.lt_irrefl _),List.take_length]
theorem check_ok {l : List Rule} (h : checkRulesS l = 0) : NamesRise l ∧ l.length ≤ 500 ∧ allOutE l = none ∧ (orderedS (needsAll l) (List.replicate l.length true)).2 = true := by
 have hn := small_of h
 unfold checkRulesS at h
 rw [decide_eq_false (by omega),cond_false] at h
 cases hf : firstE (nameE l) l.length with
 | some e => rw [hf] at h; exact absurd h (scanE_pos (e := nameE l) (nameE_pos l) hf)
 | none =>
  rw [hf] at h
  simp only [Option.getD_none] at h
  cases ho : allOutE l with
  | some e => rw [ho] at h; exact absurd h (allOut_pos l e ho)
  | none =>
   rw [ho] at h
   simp only [Option.getD_none] at h
   refine ⟨names_rise hf,hn,rfl,?_⟩
   unfold loopS at h
   cases hc : (orderedS (needsAll l) (List.replicate l.length true)).2 with
   | true => rfl
   | false => rw [hc] at h; cases h
noncomputable def orderR (l : List Rule) (w : List ByteArray) : LL × Int := (namesOf l (planS l w).1,(planS l w).2)
theorem open_close {k : Nat} (hk : Many k) (l : List Rule) (ok : RulesOk l) (w : List ByteArray) (S : List LV) :
  (checkRulesS l ≠ 0 → ∃ S',Keeps S S' [] ∧ ∀ K : LV × Int × Unit → List LV → Option R,G.steps_open.fn k (l.map Rule.lv,()) S K = K (.nilp,checkRulesS l,()) S') ∧
  (checkRulesS l = 0 → ∃ S1 S',Keeps S S1 [] ∧ Keeps S1 S' [] ∧ PlanAt S1 S.length l (ofN l l.length) (depsV (needsAll l)) ∧ (∀ K : LV × Int × Unit → List LV → Option R,G.steps_open.fn k (l.map Rule.lv,()) S K = K (.ptr (S.length + 1) 0,0,()) S1) ∧
   ∀ K : LL × Int × Unit → List LV → Option R,G.steps_plan_closure.fn k ((S.length + 1,0),w.map .str,()) S1 K = K (ints (planS l w).1,(planS l w).2,()) S') := by
 obtain ⟨S1,hK,hP,h⟩ := prog_open (R := R) hk l ok S
 constructor
 ·intro hc
  refine ⟨S1,hK,fun K => ?_⟩
  rw [h,ne_beq hc]; rfl
 ·intro hc
  obtain ⟨hr,hn,_,hall⟩ := check_ok hc
  obtain ⟨S2,h1,h2⟩ := prog_closure (R := R) hk hr hn hall w S1 (hP hc)
  refine ⟨S1,S2,hK,h1,hP hc,fun K => ?_,fun K => ?_⟩
  ·rw [h,hc]; rfl
  ·rw [h2]
   unfold planS
   rw [hc]; rfl
theorem asPtr_ptr (a b : Nat) (K : Nat → Nat → Option R) : asPtr (.ptr a b) K = K a b := rfl
theorem prog_Order {k : Nat} (hk : Many k) (l : List Rule) (ok : RulesOk l) (w : List ByteArray) (S : List LV) (K : LL × Int × Unit → List LV → Option R) : G.steps_Order.fn k (l.map Rule.lv,w.map .str,()) S K = K ((orderR l w).1,(orderR l w).2,()) S := by
 have hrun : ∃ S',Keeps S S' [] ∧ ∀ K : LL × Int × Unit → List LV → Option (LV × List LV),G.steps_Order.fn0 k (l.map Rule.lv,w.map .str,()) S K = K ((orderR l w).1,(orderR l w).2,()) S' := by
  obtain ⟨h1,h2⟩ := open_close (R := LV × List LV) hk l ok w S
  unfold G.steps_Order.fn0 orderR
  dsimp only
  by_cases hc : checkRulesS l = 0
  ·obtain ⟨S1,S2,a1,a2,_,a3,a4⟩ := h2 hc
   refine ⟨S2,a1.trans a2,fun K => ?_⟩
   refine (a3 _).trans ?_
   dsimp only
   rw [show ((0 : Int) != 0) = false from rfl,ifB_false,asPtr_ptr]
   refine (a4 _).trans ?_
   dsimp only
   rw [ints_len]
   exact po_b0 hk l _ (planS_lt l w) (planS_small l w) _ S2 _
  ·obtain ⟨S1,a1,a2⟩ := h1 hc
   refine ⟨S1,a1,fun K => ?_⟩
   refine (a2 _).trans ?_
   dsimp only
   unfold planS
   rw [ne0,ne_beq hc]; rfl
 obtain ⟨S',hK,h⟩ := hrun
 obtain ⟨G',hG⟩ := hK.grown
 unfold G.steps_Order.fn
 refine popK_at (rs := G.steps_Order.rs) (r := (((orderR l w).1,(orderR l w).2,()) : LL × Int × Unit)) (G := G') ?_ ?_
 ·rw [← hG]; exact h _
 ·show ([LV.own 9 1 (orderR l w).1,.int .i64 (orderR l w).2].all (noId 5)) = true
  have h : noId 5 (LV.own 9 1 (orderR l w).1) = true := names_noId 4 _ _
  rw [List.all_cons,h]; rfl
theorem ref_Order {k : Nat} (hk : Many k) (l : List Rule) (ok : RulesOk l) (w : List ByteArray) (S : List LV) (K : LL × Int × Unit → List LV → Option R) : G.smithyardref6_Order.fn k (l.map Rule.lv,w.map .str,()) S K = K ((orderR l w).1,(orderR l w).2,()) S := by
 unfold G.smithyardref6_Order.fn orderR
 dsimp only
 rw [ref_plan hk l ok]
 dsimp only
 rw [ne0]
 cases hc : (planS l w).2 == 0 with
 | true =>
  rw [Bool.not_true,ifB_false]
  refine (ro_b0 hk l _ (planS_lt l w) (planS_small l w) S _).trans ?_
  rw [eq_of_beq hc]
 | false =>
  have : (planS l w).1 = [] := by
   unfold planS closeS at hc ⊢
   cases h1 : checkRulesS l == 0 with
   | false => rfl
   | true =>
    rw [h1] at hc
    cases h2 : decide (w.length > 500) with
    | true => rfl
    | false =>
     rw [h2] at hc
     cases h3 : allFound l w with
     | false => rfl
     | true => rw [h3] at hc; cases hc
  rw [Bool.not_false,ifB_true,this]; rfl
end
end Go.Lm
set_option maxRecDepth 100000
namespace Go.Lm
section
variable {R : Type}
abbrev SortedB (l : List ByteArray) : Prop := l.Pairwise fun a b => strLt a b = true
theorem sortedB_uniq : ∀ {l l' : List ByteArray},SortedB l → SortedB l' → (∀ p,p ∈ l ↔ p ∈ l') → l = l'
 | [],[],_,_,_ => rfl
 | [],b :: l',_,_,h => absurd ((h b).2 (by simp)) (by simp)
 | a :: l,[],_,_,h => absurd ((h a).1 (by simp)) (by simp)
 | a :: l,b :: l',h1,h2,h => by
  have h1' := List.pairwise_cons.1 h1
  have h2' := List.pairwise_cons.1 h2
  have hab : a = b := by
   rcases List.mem_cons.1 ((h a).1 (by simp)) with e | ha
   ·exact e
   ·rcases List.mem_cons.1 ((h b).2 (by simp)) with e | hb
    ·exact e.symm
    ·have := strLt_trans (h1'.1 b hb) (h2'.1 a ha)
     rw [strLt_irrefl] at this; cases this
  subst hab
  congr 1
  refine sortedB_uniq h1'.2 h2'.2 fun p => ?_
  constructor
  ·intro hp
   rcases List.mem_cons.1 ((h p).1 (List.mem_cons_of_mem _ hp)) with e | h3
   ·have := h1'.1 p hp
    rw [e,strLt_irrefl] at this; cases this
   ·exact h3
  ·intro hp
   rcases List.mem_cons.1 ((h p).2 (List.mem_cons_of_mem _ hp)) with e | h3
   ·have := h2'.1 p hp
    rw [e,strLt_irrefl] at this; cases this
   ·exact h3
theorem sorted_keys {ks : List ByteArray} (hn : ks.Nodup) : ∃ L : List ByteArray,SortedB L ∧ (∀ p,p ∈ L ↔ p ∈ ks) ∧ ((ks.map fun p => p.data.toList).mergeSort fun x y => decide (x ≤ y)) = L.map fun p => p.data.toList := by
 have hp := List.mergeSort_perm (ks.map fun p => p.data.toList) (fun x y => decide (x ≤ y))
 have hs : ((ks.map fun p => p.data.toList).mergeSort fun x y => decide (x ≤ y)).Pairwise (fun x y => x ≤ y) :=
  (List.pairwise_mergeSort (le := fun (x y : List UInt8) => decide (x ≤ y)) (fun a b c h1 h2 => by simp only [decide_eq_true_eq] at *; exact List.le_trans h1 h2) (fun a b => by simpa using List.le_total a b) _).imp fun h => by simpa using h
 have hd : ((ks.map fun p => p.data.toList).mergeSort fun x y => decide (x ≤ y)).Nodup := by
  refine hp.nodup_iff.2 ?_
  rw [List.Nodup,List.pairwise_map]
  exact hn.imp fun h e => h (ba_ext e)
 generalize ((ks.map fun p => p.data.toList).mergeSort fun x y => decide (x ≤ y)) = L at hp hs hd
 refine ⟨L.map fun l => ⟨l.toArray⟩,?_,fun p => ?_,?_⟩
 ·rw [SortedB,List.pairwise_map]
  refine (hs.and hd).imp ?_
  rintro a b ⟨h1,h2⟩
  refine strLt_total ?_
  rw [Bool.or_eq_false_iff,strLt_dec,strEq_dec]
  exact ⟨decide_eq_false fun h => absurd h1 (List.not_le.2 h),decide_eq_false fun e => h2 (congrArg (fun z : ByteArray => z.data.toList) e).symm⟩
 ·rw [List.mem_map]
  constructor
  ·rintro ⟨a,ha,rfl⟩
   obtain ⟨q,hq,e⟩ := List.mem_map.1 (hp.mem_iff.1 ha)
   have : q = ⟨a.toArray⟩ := ba_ext (by rw [e])
   rw [← this]; exact hq
  ·intro h
   exact ⟨p.data.toList,hp.mem_iff.2 (List.mem_map.2 ⟨p,h,rfl⟩),ba_ext rfl⟩
 ·rw [List.map_map]
  show L = L.map fun a => a
  simp
structure IsStrs (S : List LV) (id n : Nat) (P : ByteArray → Prop) : Prop where
 ex : ∃ (m : List (LV × LV)) (ks : List ByteArray),S.getD id .any = .mp .str m ∧ m.map Prod.fst = ks.map LV.str ∧ ks.Nodup ∧ ks.length ≤ n ∧ ∀ p,p ∈ ks ↔ P p
theorem IsStrs.keeps {S S' : List LV} {id n : Nat} {P : ByteArray → Prop} {M : List Nat} (h : IsStrs S id n P) (hk : Keeps S S' M) (hm : id ∉ M) : IsStrs S' id n P := by
 obtain ⟨m,ks,h1,h2⟩ := h.ex
 exact ⟨m,ks,hk.get h1 (by simp) hm,h2⟩
theorem IsStrs.congr {S : List LV} {id n : Nat} {P P' : ByteArray → Prop} (h : IsStrs S id n P) (hp : ∀ p,P p ↔ P' p) : IsStrs S id n P' := by
 obtain ⟨m,ks,h1,h2,h3,h4,h5⟩ := h.ex
 exact ⟨m,ks,h1,h2,h3,h4,fun p => (h5 p).trans (hp p)⟩
theorem IsStrs.more {S : List LV} {id n n' : Nat} {P : ByteArray → Prop} (h : IsStrs S id n P) (hn : n ≤ n') : IsStrs S id n' P := by
 obtain ⟨m,ks,h1,h2,h3,h4,h5⟩ := h.ex
 exact ⟨m,ks,h1,h2,h3,Nat.le_trans h4 hn,h5⟩
theorem keys_put : ∀ {m : List (LV × LV)} {ks : List ByteArray} (_ : m.map Prod.fst = ks.map LV.str) (a : ByteArray) (v : LV),(mapPut m (.str a) v).map Prod.fst = (cond (isIn ks a) ks (ks ++ [a])).map LV.str
 | [],ks,h,a,v => by
  have : ks = [] := by
   cases ks with
   | nil => rfl
   | cons x ks => cases h
  subst this; rfl
 | (x,y) :: m,[],h,a,v => by cases h
 | (x,y) :: m,k :: ks,h,a,v => by
  rw [List.map_cons,List.map_cons] at h
  injection h with h1 h2
  have h1 : x = .str k := h1
  subst h1
  have ih := keys_put (m := m) (ks := ks) h2 a v
  simp only [mapPut,keyEq]
  by_cases e : k = a
  ·subst e
   have : isIn (k :: ks) k = true := (isIn_iff _ _).2 (by simp)
   rw [decide_eq_true rfl,this]
   show LV.str k :: m.map Prod.fst = LV.str k :: ks.map LV.str
   rw [h2]
  ·have e1 : decide (k = a) = false := decide_eq_false e
   have e2 : isIn (k :: ks) a = isIn ks a := by
    unfold isIn
    rw [List.any_cons,decide_eq_false e,Bool.false_or]
   rw [e1,e2]
   show LV.str k :: (mapPut m (.str a) v).map Prod.fst = _
   rw [ih]
   cases isIn ks a <;> rfl
theorem IsStrs.put {S : List LV} {id n : Nat} {P : ByteArray → Prop} (h : IsStrs S id n P) (a : ByteArray) : ∃ S',IsStrs S' id (n + 1) (fun p => P p ∨ p = a) ∧ Keeps S S' [id] ∧
  ∀ K : List LV → Option R,(mpAt S id .str fun m => setS (S.set id (.mp .str (mapPut m (.str a) (.bool true)))) K) = K S' := by
 obtain ⟨m,ks,h1,h2,h3,h4,h5⟩ := h.ex
 refine ⟨_,⟨mapPut m (.str a) (.bool true),cond (isIn ks a) ks (ks ++ [a]),get_set (lt_get h1 (by simp)),keys_put h2 a _,?_,?_,fun p => ?_⟩,Keeps.set S id (.mp .str (mapPut m (.str a) (.bool true))),fun K => ?_⟩
 ·cases hc : isIn ks a with
  | true => exact h3
  | false =>
   have hn : a ∉ ks := fun h => by rw [(isIn_iff _ _).2 h] at hc; cases hc
   show (ks ++ [a]).Nodup
   rw [List.nodup_append]
   refine ⟨h3,by simp,fun x hx y hy => ?_⟩
   simp at hy
   subst hy
   exact fun e => hn (e ▸ hx)
 ·cases isIn ks a
  ·show (ks ++ [a]).length ≤ _; simp; omega
  ·show ks.length ≤ _; omega
 ·cases hc : isIn ks a with
  | true =>
   have hin := (isIn_iff _ _).1 hc
   show p ∈ ks ↔ _
   rw [h5]
   exact ⟨.inl,fun h => h.elim (fun h => h) fun h => (h5 p).1 (h ▸ hin)⟩
  | false =>
   show p ∈ ks ++ [a] ↔ _
   rw [List.mem_append,List.mem_singleton,h5]
 ·unfold mpAt
  rw [h1]; rfl
theorem IsStrs.sorted {S : List LV} {id n : Nat} {P : ByteArray → Prop} (h : IsStrs S id n P) (hn : n ≤ 1000000) (hs : ∀ p,P p → p.size ≤ 300) : ∃ m L,S.getD id .any = .mp .str m ∧ H.keySok m = true ∧ SortedB L ∧ (∀ p,p ∈ L ↔ P p) ∧ ((sortS m).map fun l => LV.str ⟨l.toArray⟩) = L.map LV.str := by
 obtain ⟨m,ks,h1,h2,h3,h4,h5⟩ := h.ex
 obtain ⟨L,l1,l2,l3⟩ := sorted_keys h3
 have hk : m.map (fun kv => keyS kv.1) = ks.map fun p => p.data.toList := by
  have : m.map (fun kv => keyS kv.1) = (m.map Prod.fst).map keyS := by rw [List.map_map]; rfl
  rw [this,h2,List.map_map]; rfl
 have hlen : m.length = ks.length := by have := congrArg List.length h2; simpa using this
 refine ⟨m,L,h1,?_,l1,fun p => (l2 p).trans (h5 p),?_⟩
 ·unfold H.keySok
  rw [Bool.and_eq_true,decide_eq_true_iff,List.all_eq_true]
  refine ⟨by omega,fun kv hkv => decide_eq_true ?_⟩
  have : keyS kv.1 ∈ ks.map fun p => p.data.toList := by rw [← hk]; exact List.mem_map.2 ⟨kv,hkv,rfl⟩
  obtain ⟨p,hp,e⟩ := List.mem_map.1 this
  have := hs p ((h5 p).1 hp)
  rw [← e]
  show p.data.toList.length ≤ _
  have e2 : p.data.toList.length = p.size := by rw [Array.length_toList]; rfl
  omega
 ·unfold sortS
  rw [hk,l3,List.map_map]
  exact List.map_congr_left fun p _ => by show LV.str ⟨p.data.toList.toArray⟩ = LV.str p; rfl
def SrcTo (l : List Rule) (x : List Nat) (p : ByteArray) : Prop := (∃ i ∈ x,p ∈ (l.getD i .zero).ins) ∧ outsIn l p = false
theorem check_fit {l : List Rule} (h : checkRulesS l = 0) : RulesFit l := by
 have hn := small_of h
 unfold checkRulesS at h
 rw [decide_eq_false (by omega),cond_false] at h
 cases hf : firstE (nameE l) l.length with
 | some e => rw [hf] at h; exact absurd h (scanE_pos (e := nameE l) (nameE_pos l) hf)
 | none => exact rules_fit hn (rules_right hf)
theorem ps_b1 {k : Nat} (hk : Many k) (l : List Rule) (id mid : Nat) (h1 : mid ≠ id) (h2 : mid ≠ id + 1) (deps : LV) (q : List ByteArray) (hq : q.length ≤ 1000) (xs : LL) (n i : Int) (N : Nat) (P : ByteArray → Prop) (S : List LV) (hP : PlanAt S id l (ofN l l.length) deps) (hM : IsStrs S mid N P) :
  ∃ S',(IsStrs S' mid (N + q.length) (fun p => P p ∨ p ∈ q ∧ outsIn l p = false) ∧ Keeps S S' [mid]) ∧
   ∀ J : LL × N2 × Nat × LL × Int × Int × Unit → List LV → Option R,rounds (G.steps_Sources.b1 k J) k (l.map Rule.lv,(id + 1,0),mid,xs,n,i,q.map .str,(q.length : Int),0,()) S = J (l.map Rule.lv,(id + 1,0),mid,xs,n,i,()) S' := by
 have hk' := hk
 unfold Many at hk'
 have hl := loop_all (R := R) (b := fun J => G.steps_Sources.b1 k J) (x := fun t => (l.map Rule.lv,(id + 1,0),mid,xs,n,i,q.map LV.str,(q.length : Int),(t : Int),())) (n := q.length)
  (Inv := fun t S1 => IsStrs S1 mid (N + t) (fun p => P p ∨ p ∈ q.take t ∧ outsIn l p = false) ∧ Keeps S S1 [mid])
  (out := fun (J : LL × N2 × Nat × LL × Int × Int × Unit → List LV → Option R) S' => J (l.map Rule.lv,(id + 1,0),mid,xs,n,i,()) S')
  (fun t S1 ht hI => ?_) (fun J rec S1 hI => ?_) k (by omega) S ⟨hM.congr (fun p => by simp),Keeps.refl _ _⟩
 ·obtain ⟨S',⟨a,b⟩,c⟩ := hl
  rw [List.take_length] at a
  exact ⟨S',⟨a,b⟩,c⟩
 ·obtain ⟨hM1,hK⟩ := hI
  have hP1 := hP.keeps hK (by simp; exact Ne.symm h1) (by simp; exact Ne.symm h2)
  obtain ⟨⟨m,hMap⟩,hPl⟩ := hP1
  have htk : q.take (t + 1) = q.take t ++ [q.getD t (bs [])] := by rw [List.take_add_one,List.getElem?_eq_getElem ht,List.getD_eq_getElem?_getD,List.getElem?_eq_getElem ht]; rfl
  have hso : (ofN l l.length (q.getD t (bs []))).isSome = outsIn l (q.getD t (bs [])) := by
   have := ofN_some l (q.getD t (bs [])) l.length (Nat.le_refl _)
   rw [List.take_length] at this
   exact this
  have hb : ∀ (J : LL × N2 × Nat × LL × Int × Int × Unit → List LV → Option R) rec,G.steps_Sources.b1 k J rec (l.map Rule.lv,(id + 1,0),mid,xs,n,i,q.map LV.str,(q.length : Int),(t : Int),()) S1 =
    ifB (!(outsIn l (q.getD t (bs [])))) (mpAt S1 mid .str fun m => setS (S1.set mid (.mp .str (mapPut m (.str (q.getD t (bs []))) (.bool true)))) fun S => rec (l.map Rule.lv,(id + 1,0),mid,xs,n,i,q.map LV.str,(q.length : Int),((t + 1 : Nat) : Int),()) S) (rec (l.map Rule.lv,(id + 1,0),mid,xs,n,i,q.map LV.str,(q.length : Int),((t + 1 : Nat) : Int),()) S1) := fun J rec => by
   unfold G.steps_Sources.b1
   dsimp only
   rw [lt_nat,ifB_pos ht,idxL_nat (by simpa using ht),map_str_get _ t ht,asLeaf_str,at_of hPl,plan_map,asMap_map,hMap.mp,hMap.get,of_int,of_some,hso,wrap_succ (by omega)]
  cases ho : outsIn l (q.getD t (bs [])) with
  | true =>
   refine ⟨S1,⟨(hM1.more (by omega)).congr fun p => ?_,hK⟩,fun J rec => by rw [hb,ho]; rfl⟩
   rw [htk]
   constructor
   ·exact fun h => h.imp_right fun h => ⟨List.mem_append_left _ h.1,h.2⟩
   ·refine fun h => h.imp_right fun h => ⟨(List.mem_append.1 h.1).resolve_right fun hc => ?_,h.2⟩
    simp at hc
    rw [hc] at h
    exact absurd h.2 (by rw [show outsIn l ((q[t]?).getD (bs [])) = true by rw [← List.getD_eq_getElem?_getD]; exact ho]; decide)
  | false =>
   obtain ⟨S2,g1,g2,g3⟩ := hM1.put (R := R) (q.getD t (bs []))
   refine ⟨S2,⟨g1.congr fun p => ?_,hK.trans g2⟩,fun J rec => ?_⟩
   ·rw [htk]
    constructor
    ·rintro ((h | h) | h)
     ·exact .inl h
     ·exact .inr ⟨List.mem_append_left _ h.1,h.2⟩
     ·rw [h]; exact .inr ⟨by simp,ho⟩
    ·rintro (h | h)
     ·exact .inl (.inl h)
     ·rcases List.mem_append.1 h.1 with h3 | h3
      ·exact .inl (.inr ⟨h3,h.2⟩)
      ·exact .inr (List.mem_singleton.1 h3)
   ·rw [hb,ho]
    exact g3 _
 ·unfold G.steps_Sources.b1
  dsimp only
  rw [lt_nat,ifB_neg (Nat.lt_irrefl _)]
theorem ps_b0 {k : Nat} (hk : Many k) (l : List Rule) (fit : RulesFit l) (id mid : Nat) (h1 : mid ≠ id) (h2 : mid ≠ id + 1) (deps : LV) (x : List Nat) (hx : ∀ i ∈ x,i < l.length) (hxl : x.length ≤ 500) (S : List LV) (hP : PlanAt S id l (ofN l l.length) deps) (hM : IsStrs S mid 0 (fun _ => False)) :
  ∃ S',(IsStrs S' mid 500000 (SrcTo l x) ∧ Keeps S S' [mid]) ∧
   ∀ J : Nat × Unit → List LV → Option R,rounds (G.steps_Sources.b0 k J) k (l.map Rule.lv,(id + 1,0),mid,ints x,(x.length : Int),0,()) S = J (mid,()) S' := by
 have hk' := hk
 unfold Many at hk'
 have hl := loop_all (R := R) (b := fun J => G.steps_Sources.b0 k J) (x := fun t => (l.map Rule.lv,(id + 1,0),mid,ints x,(x.length : Int),(t : Int),())) (n := x.length)
  (Inv := fun t S1 => IsStrs S1 mid (t * 1000) (SrcTo l (x.take t)) ∧ Keeps S S1 [mid])
  (out := fun (J : Nat × Unit → List LV → Option R) S' => J (mid,()) S')
  (fun t S1 ht hI => ?_) (fun J rec S1 hI => ?_) k (by omega) S ⟨(hM.more (by omega)).congr (fun p => by simp [SrcTo]),Keeps.refl _ _⟩
 ·obtain ⟨S',⟨a,b⟩,c⟩ := hl
  rw [List.take_length] at a
  exact ⟨S',⟨a.more (by omega),b⟩,c⟩
 ·obtain ⟨hM1,hK⟩ := hI
  have hxt := hx _ (nat_mem x t ht)
  have hft := fit.fit _ (rule_mem l _ hxt)
  obtain ⟨S2,⟨g1,g2⟩,g3⟩ := ps_b1 (R := R) hk l id mid h1 h2 deps (l.getD (x.getD t 0) .zero).ins hft.im (ints x) (x.length : Int) (t : Int) _ _ S1 (hP.keeps hK (by simp; exact Ne.symm h1) (by simp; exact Ne.symm h2)) hM1
  refine ⟨S2,⟨(g1.more (by have := hft.im; omega)).congr fun p => ?_,hK.trans g2⟩,fun J rec => ?_⟩
  ·unfold SrcTo
   rw [take_snoc x t ht]
   constructor
   ·rintro (⟨⟨i,hi,hp⟩,ho⟩ | ⟨hp,ho⟩)
    ·exact ⟨⟨i,List.mem_append_left _ hi,hp⟩,ho⟩
    ·exact ⟨⟨_,by simp,hp⟩,ho⟩
   ·rintro ⟨⟨i,hi,hp⟩,ho⟩
    rcases List.mem_append.1 hi with h3 | h3
    ·exact .inl ⟨⟨i,h3,hp⟩,ho⟩
    ·rw [List.mem_singleton.1 h3] at hp
     exact .inr ⟨hp,ho⟩
  ·unfold G.steps_Sources.b0
   dsimp only
   rw [lt_nat,ifB_pos ht,idxL_nat (by rw [ints_len]; exact ht),ints_get x t ht,leaf_int,idxL_nat (by simpa using hxt),rule_get l _ hxt,rule_ins,List.length_map]
   refine (g3 _).trans ?_
   dsimp only
   rw [wrap_succ (by omega)]
 ·unfold G.steps_Sources.b0
  dsimp only
  rw [lt_nat,ifB_neg (Nat.lt_irrefl _)]
theorem prog_Sources {k : Nat} (hk : Many k) (l : List Rule) (ok : RulesOk l) (w : List ByteArray) : ∃ L : List ByteArray,((planS l w).2 = 0 → SortedB L ∧ ∀ p,p ∈ L ↔ SrcTo l (planS l w).1 p) ∧ ((planS l w).2 ≠ 0 → L = []) ∧ ∀ {R : Type} (S : List LV) (K : LL × Int × Unit → List LV → Option R),G.steps_Sources.fn k (l.map Rule.lv,w.map .str,()) S K = K (L.map .str,(planS l w).2,()) S := by
 by_cases hpz : (planS l w).2 = 0
 ·have hc : checkRulesS l = 0 := by
   cases hc : checkRulesS l == 0 with
   | true => exact eq_of_beq hc
   | false =>
    unfold planS at hpz
    rw [hc] at hpz
    have : checkRulesS l = 0 := hpz
    rw [this] at hc; cases hc
  have fit := check_fit hc
  have hsz : ∀ p,SrcTo l (planS l w).1 p → p.size ≤ 300 := fun p ⟨⟨i,hi,hp⟩,_⟩ => (fit.fit _ (rule_mem l i (planS_lt l w i hi))).is p hp
  have hrun : ∀ S : List LV,∃ S' L,SortedB L ∧ (∀ p,p ∈ L ↔ SrcTo l (planS l w).1 p) ∧ Keeps S S' [] ∧ ∀ K : LL × Int × Unit → List LV → Option (LV × List LV),G.steps_Sources.fn0 k (l.map Rule.lv,w.map .str,()) S K = K (L.map .str,0,()) S' := fun S => by
   obtain ⟨_,h2⟩ := open_close (R := LV × List LV) hk l ok w S
   obtain ⟨S1,S2,a1,a2,a0,a3,a4⟩ := h2 hc
   let S3 := S2 ++ [.mp .str []]
   have hK3 : Keeps S2 S3 [] := Keeps.app _ _ _
   have hP2 : PlanAt S2 S.length l (ofN l l.length) (depsV (needsAll l)) := a0.keeps a2 (by simp) (by simp)
   have hlt := lt_get hP2.plan (by simp)
   have hM0 : IsStrs S3 S2.length 0 (fun _ => False) := ⟨[],[],get_end _ _,rfl,List.nodup_nil,Nat.le_refl _,fun p => by simp⟩
   obtain ⟨S4,⟨b1,b2⟩,b3⟩ := ps_b0 (R := LV × List LV) hk l fit S.length S2.length (by omega) (by omega) _ (planS l w).1 (planS_lt l w) (planS_small l w) S3 (hP2.keeps hK3 (by simp) (by simp)) hM0
   let S5 := S4 ++ [.obj 77 [.map S2.length]]
   have hK5 : Keeps S4 S5 [] := Keeps.app _ _ _
   obtain ⟨m,L,c1,c2,c3,c4,c5⟩ := (b1.keeps hK5 (by simp)).sorted (by omega) hsz
   refine ⟨S5,L,c3,c4,Keeps.weak (M := [S2.length]) (((a1.trans a2).weak (fun m hm => by simp at hm)).trans ((hK3.weak (fun m hm => by simp at hm)).trans (b2.trans (hK5.weak (fun m hm => by simp at hm))))) (fun m hm => by simp at hm; have := (a1.trans a2).1; omega),fun K => ?_⟩
   unfold G.steps_Sources.fn0
   dsimp only
   refine (a3 _).trans ?_
   dsimp only
   rw [show ((0 : Int) != 0) = false from rfl,ifB_false,asPtr_ptr]
   refine (a4 _).trans ?_
   dsimp only
   rw [hpz,show ((0 : Int) != 0) = false from rfl,ifB_false,ints_len]
   unfold newObj G.steps_Sources.q0
   refine (b3 _).trans ?_
   unfold G.maps_Keys_map_string_bool_string_bool.fn newObj
   dsimp only
   unfold H.SortedS.fn sortedSF
   dsimp only
   rw [show S4 ++ [LV.obj 77 [.map S2.length]] = S5 from rfl,show S5.getD S4.length .any = .obj 77 [.map S2.length] from get_end _ _]
   dsimp only
   rw [c1]
   dsimp only
   rw [Nat.beq_refl,c2,show (true && true) = true from rfl]
   dsimp only
   rw [c5]
  obtain ⟨S0,L,hL1,hL2,_⟩ := hrun []
  refine ⟨L,fun _ => ⟨hL1,hL2⟩,fun h => absurd hpz h,fun S K => ?_⟩
  obtain ⟨S',L',g1,g2,hK,h⟩ := hrun S
  have e : L' = L := sortedB_uniq g1 hL1 fun p => (g2 p).trans (hL2 p).symm
  subst e
  obtain ⟨G',hG⟩ := hK.grown
  unfold G.steps_Sources.fn
  refine popK_at (rs := G.steps_Sources.rs) (r := ((L'.map LV.str,(planS l w).2,()) : LL × Int × Unit)) (G := G') ?_ ?_
  ·rw [← hG,hpz]; exact h _
  ·show ([LV.sl 1 (L'.map .str),.int .i64 (planS l w).2].all (noId 5)) = true
   have h : noId 5 (LV.sl 1 (L'.map .str)) = true := strs_noId' 4 _
   rw [List.all_cons,h]; rfl
 ·refine ⟨[],fun h => absurd h hpz,fun _ => rfl,fun S K => ?_⟩
  have hnil : (planS l w).1 = [] := by
   unfold planS closeS at hpz ⊢
   cases h1 : checkRulesS l == 0 with
   | false => rfl
   | true =>
    rw [h1] at hpz
    cases h2 : decide (w.length > 500) with
    | true => rfl
    | false =>
     rw [h2] at hpz
     cases h3 : allFound l w with
     | false => rfl
     | true => rw [h3] at hpz; exact absurd rfl hpz
  have hrun : ∃ S',Keeps S S' [] ∧ ∀ K : LL × Int × Unit → List LV → Option (LV × List LV),G.steps_Sources.fn0 k (l.map Rule.lv,w.map .str,()) S K = K ([],(planS l w).2,()) S' := by
   obtain ⟨h1,h2⟩ := open_close (R := LV × List LV) hk l ok w S
   unfold G.steps_Sources.fn0
   dsimp only
   by_cases hc : checkRulesS l = 0
   ·obtain ⟨S1,S2,a1,a2,_,a3,a4⟩ := h2 hc
    refine ⟨S2,a1.trans a2,fun K => ?_⟩
    refine (a3 _).trans ?_
    dsimp only
    rw [show ((0 : Int) != 0) = false from rfl,ifB_false,asPtr_ptr]
    refine (a4 _).trans ?_
    dsimp only
    rw [ne0,ne_beq hpz]; rfl
   ·obtain ⟨S1,a1,a2⟩ := h1 hc
    refine ⟨S1,a1,fun K => ?_⟩
    refine (a2 _).trans ?_
    dsimp only
    unfold planS
    rw [ne0,ne_beq hc]; rfl
  obtain ⟨S',hK,h⟩ := hrun
  obtain ⟨G',hG⟩ := hK.grown
  unfold G.steps_Sources.fn
  refine popK_at (rs := G.steps_Sources.rs) (r := (([],(planS l w).2,()) : LL × Int × Unit)) (G := G') ?_ rfl
  rw [← hG]; exact h _
end
end Go.Lm
set_option maxRecDepth 100000
namespace Go.Lm
section
variable {R : Type}
def putS : List ByteArray → ByteArray → List ByteArray
 | [],s => [s]
 | a :: l,s => cond (strLt a s) (a :: putS l s) (cond (strEq a s) (a :: l) (s :: a :: l))
theorem putS_mem (p s : ByteArray) : ∀ l : List ByteArray,p ∈ putS l s ↔ p ∈ l ∨ p = s
 | [] => by simp [putS]
 | a :: l => by
  have ih := putS_mem p s l
  unfold putS
  cases strLt a s with
  | true => rw [cond_true,List.mem_cons,List.mem_cons,ih,or_assoc]
  | false =>
   rw [cond_false]
   cases he : strEq a s with
   | true =>
    have e := (strEq_iff _ _).1 he
    rw [cond_true]
    exact ⟨.inl,fun h => h.elim (fun h => h) fun h => by rw [h,← e]; simp⟩
   | false =>
    rw [cond_false,List.mem_cons (a := p) (b := s)]
    exact ⟨fun h => h.elim .inr .inl,fun h => h.elim .inr .inl⟩
theorem putS_sorted (s : ByteArray) : ∀ l : List ByteArray,SortedB l → SortedB (putS l s)
 | [],_ => by simp [putS]
 | a :: l,h => by
  have h' := List.pairwise_cons.1 h
  unfold putS
  cases h1 : strLt a s with
  | true =>
   rw [cond_true]
   refine List.pairwise_cons.2 ⟨fun p hp => ?_,putS_sorted s l h'.2⟩
   exact ((putS_mem p s l).1 hp).elim (h'.1 p) fun e => by rw [e]; exact h1
  | false =>
   rw [cond_false]
   cases h2 : strEq a s with
   | true => exact h
   | false =>
    have hs := strLt_total (a := a) (b := s) (by rw [h1,h2]; rfl)
    rw [cond_false]
    refine List.pairwise_cons.2 ⟨fun p hp => ?_,h⟩
    exact (List.mem_cons.1 hp).elim (fun e => by rw [e]; exact hs) fun hp => strLt_trans hs (h'.1 p hp)
theorem putS_len (s : ByteArray) : ∀ l : List ByteArray,(putS l s).length ≤ l.length + 1
 | [] => by simp [putS]
 | a :: l => by
  have ih := putS_len s l
  unfold putS
  cases strLt a s
  ·cases strEq a s <;> simp
  ·simp; omega
theorem slL_nat {xs : List LV} {lo hi : Nat} (h1 : lo ≤ hi) (h2 : hi ≤ xs.length) (K : List LV → Option R) : slL xs (lo : Int) (hi : Int) K = K ((xs.take hi).drop lo) := by
 unfold slL
 rw [decide_eq_true ⟨by omega,by omega,by omega⟩,Int.toNat_natCast,Int.toNat_natCast]; rfl
theorem str_at (l : List ByteArray) (i : Nat) (h : i < l.length) (K : ByteArray → Option R) : (idxL (l.map LV.str) (i : Int) fun v => asStr (leaf v 0) K) = K (l.getD i (bs [])) := by
 rw [idxL_nat (by simpa using h),map_str_get l i h,asLeaf_str]
theorem put_cut {k : Nat} (L : List ByteArray) (hl : L.length ≤ 1000000) (s : ByteArray) (S : List LV) : ∀ (n fuel : Nat),n < fuel → n ≤ L.length → (∀ j,n ≤ j → j < L.length → strLt s (L.getD j (bs [])) = true) →
  ∃ c,c ≤ L.length ∧ (∀ j,c ≤ j → j < L.length → strLt s (L.getD j (bs [])) = true) ∧ (0 < c → (strLt (L.getD (c - 1) (bs [])) s || strEq (L.getD (c - 1) (bs [])) s) = true) ∧
   ∀ J : LL × ByteArray × Int × Unit → List LV → Option R,rounds (G.smithyardref6_put.b0 k J) fuel (L.map .str,s,(n : Int),()) S = J (L.map .str,s,(c : Int),()) S
 | 0,fuel,hf,hn,hg => by
  obtain ⟨m,rfl⟩ : ∃ m,fuel = m + 1 := ⟨fuel - 1,by omega⟩
  exact ⟨0,Nat.zero_le _,hg,fun h => absurd h (by omega),fun J => rfl⟩
 | n + 1,fuel,hf,hn,hg => by
  obtain ⟨m,rfl⟩ : ∃ m,fuel = m + 1 := ⟨fuel - 1,by omega⟩
  have hstep : ∀ (J rec : LL × ByteArray × Int × Unit → List LV → Option R),G.smithyardref6_put.b0 k J rec (L.map .str,s,((n + 1 : Nat) : Int),()) S = ifB (!(strLt (L.getD n (bs [])) s || strEq (L.getD n (bs [])) s)) (rec (L.map .str,s,(n : Int),()) S) (J (L.map .str,s,((n + 1 : Nat) : Int),()) S) := fun J rec => by
   unfold G.smithyardref6_put.b0
   dsimp only
   rw [ifB_pos (by omega),wrap_pred (by omega) (by omega),Nat.add_sub_cancel,str_at L n (by omega)]
  cases hb : (strLt (L.getD n (bs [])) s || strEq (L.getD n (bs [])) s) with
  | true =>
   refine ⟨n + 1,hn,hg,fun _ => hb,fun J => ?_⟩
   rw [rounds_succ,hstep,hb]; rfl
  | false =>
   obtain ⟨c,h1,h2,h3,h4⟩ := put_cut L hl s S n m (by omega) (by omega) fun j hj hjl => by
    rcases Nat.lt_or_ge j (n + 1) with h | h
    ·have : j = n := by omega
     subst this
     exact strLt_total hb
    ·exact hg j h hjl
   refine ⟨c,h1,h2,h3,fun J => ?_⟩
   rw [rounds_succ,hstep,hb]
   exact h4 J
theorem sorted_at {L : List ByteArray} (h : SortedB L) {i j : Nat} (hij : i < j) (hj : j < L.length) : strLt (L.getD i (bs [])) (L.getD j (bs [])) = true := by
 have := List.pairwise_iff_getElem.1 h i j (by omega) hj hij
 rw [List.getD_eq_getElem?_getD,List.getD_eq_getElem?_getD,List.getElem?_eq_getElem (by omega),List.getElem?_eq_getElem hj]
 exact this
theorem ref_put {k : Nat} (hk : Many k) (L : List ByteArray) (hL : SortedB L) (hl : L.length ≤ 1000000) (s : ByteArray) (S : List LV) (K : LL × Unit → List LV → Option R) : G.smithyardref6_put.fn k (L.map .str,s,()) S K = K ((putS L s).map .str,()) S := by
 unfold Many at hk
 obtain ⟨c,h1,h2,h3,h4⟩ := put_cut (R := R) (k := k) L hl s S L.length k (by omega) (Nat.le_refl _) (fun j h h' => absurd h' (by omega))
 unfold G.smithyardref6_put.fn
 dsimp only
 rw [List.length_map]
 refine (h4 _).trans ?_
 dsimp only
 have hlt : ∀ j,j < c → strEq (L.getD (c - 1) (bs [])) s = false → strLt (L.getD j (bs [])) s = true := fun j hj he => by
  have h5 := h3 (by omega)
  rw [he,Bool.or_false] at h5
  rcases Nat.lt_or_ge j (c - 1) with h6 | h6
  ·exact strLt_trans (sorted_at hL h6 (by omega)) h5
  ·have : j = c - 1 := by omega
   rw [this]; exact h5
 have hput : (∀ j,j < c → strLt (L.getD j (bs [])) s = true) → L.take c ++ [s] ++ L.drop c = putS L s := fun hlt => by
  have hp : ∀ p,p ∈ L ↔ p ∈ L.take c ∨ p ∈ L.drop c := fun p => by rw [← List.mem_append,List.take_append_drop]
  have ht : ∀ p ∈ L.take c,strLt p s = true := fun p hp => by
   obtain ⟨j,hj,e⟩ := List.mem_iff_getElem.1 hp
   rw [List.length_take] at hj
   have := hlt j (by omega)
   rw [List.getElem_take] at e
   rw [List.getD_eq_getElem?_getD,List.getElem?_eq_getElem (by omega)] at this
   rw [← e]; exact this
  have hd : ∀ p ∈ L.drop c,strLt s p = true := fun p hp => by
   obtain ⟨j,hj,e⟩ := List.mem_iff_getElem.1 hp
   rw [List.length_drop] at hj
   have := h2 (c + j) (by omega) (by omega)
   rw [List.getElem_drop] at e
   rw [List.getD_eq_getElem?_getD,List.getElem?_eq_getElem (by omega)] at this
   rw [← e]; exact this
  refine sortedB_uniq ?_ (putS_sorted s L hL) fun p => ?_
  ·rw [SortedB,List.pairwise_append,List.pairwise_append]
   refine ⟨⟨hL.sublist (List.take_sublist _ _),by simp,fun a ha b hb => ?_⟩,hL.sublist (List.drop_sublist _ _),fun a ha b hb => ?_⟩
   ·rw [List.mem_singleton.1 hb]; exact ht a ha
   ·rcases List.mem_append.1 ha with h | h
    ·exact strLt_trans (ht a h) (hd b hb)
    ·rw [List.mem_singleton.1 h]; exact hd b hb
  ·rw [putS_mem,hp,List.mem_append,List.mem_append,List.mem_singleton]
   exact ⟨fun h => h.elim (fun h => h.elim (fun h => .inl (.inl h)) .inr) fun h => .inl (.inr h),fun h => h.elim (fun h => h.elim (fun h => .inl (.inl h)) .inr) fun h => .inl (.inr h)⟩
 have hq : (∀ j,j < c → strLt (L.getD j (bs [])) s = true) → G.smithyardref6_put.q0 k K (L.map .str,s,(c : Int),()) S = K ((putS L s).map .str,()) S := fun hlt => by
  unfold G.smithyardref6_put.q0 G.smithyardref6_put.q1 G.smithyardref6_put.q2 G.smithyardref6_put.q3
  dsimp only
  rw [show (0 : Int) = ((0 : Nat) : Int) from rfl,slL_nat (Nat.zero_le _) (by simpa using h1),List.drop_zero,List.length_map,app_le (by simp; omega) (by simp; omega),List.nil_append,app_le (by simp; omega) (by simp; omega),slL_nat h1 (by simp)]
  rw [show (L.map LV.str).take L.length = L.map LV.str from List.take_of_length_le (by simp),app_le (by simp; omega) (by simp; omega),← hput hlt]
  simp [List.map_take,List.map_drop]
 by_cases h0 : 0 < c
 ·rw [ifB_pos (by omega),wrap_pred h0 (by omega),str_at L (c - 1) (by omega)]
  cases he : strEq (L.getD (c - 1) (bs [])) s with
  | true =>
   have e := (strEq_iff _ _).1 he
   have : putS L s = L := by
    refine sortedB_uniq (putS_sorted s L hL) hL fun p => ?_
    rw [putS_mem]
    refine ⟨fun h => h.elim (fun h => h) fun h => ?_,.inl⟩
    rw [h,← e,List.getD_eq_getElem?_getD,List.getElem?_eq_getElem (by omega)]
    exact List.getElem_mem _
   rw [this]; rfl
  | false =>
   rw [ifB_false]
   exact hq fun j hj => hlt j hj he
 ·have : c = 0 := by omega
  subst this
  rw [ifB_neg (by omega)]
  exact hq fun j hj => absurd hj (by omega)
def outAtI (l : List Rule) (p : ByteArray) : Int := findI ((List.range l.length).find? fun i => isIn (l.getD i .zero).act.outs p)
theorem outAtI_neg (l : List Rule) (p : ByteArray) : decide (outAtI l p < 0) = !(outsIn l p) := by
 unfold outAtI
 cases h : (List.range l.length).find? fun i => isIn (l.getD i .zero).act.outs p with
 | none =>
  rw [List.find?_eq_none] at h
  have : outsIn l p = false := by
   unfold outsIn
   rw [List.any_eq_false]
   intro r hr
   obtain ⟨i,hi,e⟩ := List.mem_iff_getElem.1 hr
   have := h i (List.mem_range.2 hi)
   rw [List.getD_eq_getElem?_getD,List.getElem?_eq_getElem hi] at this
   rw [← e]
   simpa using this
  rw [this]; rfl
 | some i =>
  have h1 := List.find?_some h
  have h2 := List.mem_range.1 (List.mem_of_find?_eq_some h)
  have : outsIn l p = true := by
   unfold outsIn
   rw [List.any_eq_true]
   exact ⟨_,rule_mem l i h2,h1⟩
  rw [this]
  exact decide_eq_false (show ¬ ((i : Int) < 0) by omega)
theorem ref_outputOf {k : Nat} (hk : Many k) (l : List Rule) (ok : RulesOk l) (p : ByteArray) (S : List LV) (K : Int × Unit → List LV → Option R) : G.smithyardref6_outputOf.fn k (l.map Rule.lv,p,()) S K = K (outAtI l p,()) S := by
 have hk' := hk
 unfold Many at hk'
 have hln := ok.n
 unfold G.smithyardref6_outputOf.fn
 refine (rounds_scan0 (fun i => (l.map Rule.lv,p,(i : Int),())) S l.length k (fun i => cond (isIn (l.getD i .zero).act.outs p) (some (K ((i : Int),()) S)) none) (K ((-1 : Int),()) S) (fun rec i hi => ?_) (fun rec => ?_) (by omega)).trans ?_
 ·unfold G.smithyardref6_outputOf.b0
  dsimp only
  rw [List.length_map,lt_nat,ifB_pos hi,idxL_nat (by simpa using hi),rule_get l i hi,rule_outs]
  refine (ref_has hk _ (ok.on _ (rule_mem l i hi)) p S _).trans ?_
  dsimp only
  rw [wrap_succ (by omega)]
  cases isIn (l.getD i .zero).act.outs p <;> rfl
 ·unfold G.smithyardref6_outputOf.b0
  dsimp only
  rw [List.length_map,lt_nat,ifB_neg (Nat.lt_irrefl _)]
 ·rw [scan_find? (fun i => isIn (l.getD i .zero).act.outs p) (fun i => K ((i : Int),()) S)]
  unfold outAtI
  rw [List.range_eq_range']
  cases (List.range' 0 l.length).find? fun i => isIn (l.getD i .zero).act.outs p <;> rfl
def srcOne (l : List Rule) (out : List ByteArray) (p : ByteArray) : List ByteArray := cond (outsIn l p) out (putS out p)
def srcRule (l : List Rule) (out : List ByteArray) (i : Nat) : List ByteArray := (l.getD i .zero).ins.foldl (srcOne l) out
def srcAll (l : List Rule) (x : List Nat) : List ByteArray := x.foldl (srcRule l) []
theorem srcOne_ok {l : List Rule} {out : List ByteArray} (p : ByteArray) (h : SortedB out) : SortedB (srcOne l out p) ∧ (srcOne l out p).length ≤ out.length + 1 ∧ ∀ q,q ∈ srcOne l out p ↔ q ∈ out ∨ q = p ∧ outsIn l p = false := by
 unfold srcOne
 cases ho : outsIn l p with
 | true => exact ⟨h,Nat.le_succ _,fun q => ⟨.inl,fun h => h.elim (fun h => h) fun h => by cases h.2⟩⟩
 | false => exact ⟨putS_sorted p out h,putS_len p out,fun q => (putS_mem q p out).trans ⟨fun h => h.imp_right fun h => ⟨h,rfl⟩,fun h => h.imp_right fun h => h.1⟩⟩
theorem srcs_ok {l : List Rule} : ∀ (ins : List ByteArray) {out : List ByteArray},SortedB out → SortedB (ins.foldl (srcOne l) out) ∧ (ins.foldl (srcOne l) out).length ≤ out.length + ins.length ∧ ∀ q,q ∈ ins.foldl (srcOne l) out ↔ q ∈ out ∨ q ∈ ins ∧ outsIn l q = false
 | [],out,h => ⟨h,Nat.le_refl _,fun q => by simp⟩
 | p :: ins,out,h => by
  obtain ⟨a1,a2,a3⟩ := srcOne_ok (l := l) p h
  obtain ⟨b1,b2,b3⟩ := srcs_ok ins a1
  refine ⟨b1,by rw [List.length_cons,List.foldl_cons]; omega,fun q => ?_⟩
  rw [List.foldl_cons,b3,a3,List.mem_cons]
  constructor
  ·rintro ((h | ⟨h,h'⟩) | h)
   ·exact .inl h
   ·exact .inr ⟨.inl h,by rw [h]; exact h'⟩
   ·exact .inr ⟨.inr h.1,h.2⟩
  ·rintro (h | ⟨h | h,h'⟩)
   ·exact .inl (.inl h)
   ·exact .inl (.inr ⟨h,by rw [← h]; exact h'⟩)
   ·exact .inr ⟨h,h'⟩
theorem srcAll_ok {l : List Rule} (fit : RulesFit l) : ∀ (x : List Nat) {out : List ByteArray},SortedB out → (∀ i ∈ x,i < l.length) → SortedB (x.foldl (srcRule l) out) ∧ (x.foldl (srcRule l) out).length ≤ out.length + x.length * 1000 ∧ ∀ q,q ∈ x.foldl (srcRule l) out ↔ q ∈ out ∨ SrcTo l x q
 | [],out,h,_ => ⟨h,by simp,fun q => by simp [SrcTo]⟩
 | i :: x,out,h,hx => by
  obtain ⟨a1,a2,a3⟩ := srcs_ok (l := l) (l.getD i .zero).ins h
  obtain ⟨b1,b2,b3⟩ := srcAll_ok fit x (out := srcRule l out i) a1 fun j hj => hx j (by simp [hj])
  have him := (fit.fit _ (rule_mem l i (hx i (by simp)))).im
  refine ⟨b1,?_,fun q => ?_⟩
  ·rw [List.length_cons,List.foldl_cons]
   have : (srcRule l out i).length ≤ out.length + (l.getD i .zero).ins.length := a2
   omega
  ·rw [List.foldl_cons,b3]
   unfold srcRule SrcTo
   rw [a3]
   constructor
   ·rintro ((h | h) | ⟨⟨j,hj,hq⟩,ho⟩)
    ·exact .inl h
    ·exact .inr ⟨⟨i,by simp,h.1⟩,h.2⟩
    ·exact .inr ⟨⟨j,by simp [hj],hq⟩,ho⟩
   ·rintro (h | ⟨⟨j,hj,hq⟩,ho⟩)
    ·exact .inl (.inl h)
    ·rcases List.mem_cons.1 hj with e | hj
     ·rw [e] at hq; exact .inl (.inr ⟨hq,ho⟩)
     ·exact .inr ⟨⟨j,hj,hq⟩,ho⟩
theorem rs_b1 {k : Nat} (hk : Many k) (l : List Rule) (ok : RulesOk l) (r : Rule) (hr : r.ins.length ≤ 1000) (x : LL) (at_ : Int) (out : List ByteArray) (hout : SortedB out) (hol : out.length ≤ 500000) (S : List LV) (J : LL × LL × LL × Int × Unit → List LV → Option R) :
  rounds (G.smithyardref6_Sources.b1 k J) k (l.map Rule.lv,x,out.map .str,at_,r.tup,0,()) S = J (l.map Rule.lv,x,(r.ins.foldl (srcOne l) out).map .str,at_,()) S := by
 have hk' := hk
 unfold Many at hk'
 refine (rounds_scan0 (fun j => (l.map Rule.lv,x,((r.ins.take j).foldl (srcOne l) out).map LV.str,at_,r.tup,(j : Int),())) S r.ins.length k (fun _ => none) (J (l.map Rule.lv,x,(r.ins.foldl (srcOne l) out).map .str,at_,()) S) (fun rec j hj => ?_) (fun rec => ?_) (by omega)).trans (scan_none _ _ (fun _ _ _ => rfl))
 ·obtain ⟨a1,a2,_⟩ := srcs_ok (l := l) (r.ins.take j) hout
  rw [List.length_take] at a2
  have htk : r.ins.take (j + 1) = r.ins.take j ++ [r.ins.getD j (bs [])] := by rw [List.take_add_one,List.getElem?_eq_getElem hj,List.getD_eq_getElem?_getD,List.getElem?_eq_getElem hj]; rfl
  unfold G.smithyardref6_Sources.b1 G.smithyardref6_Sources.q0
  dsimp only
  rw [List.length_map,lt_nat,ifB_pos hj,str_at r.ins j hj,htk,List.foldl_append]
  refine (ref_outputOf hk l ok _ S _).trans ?_
  dsimp only
  rw [outAtI_neg,wrap_succ (by omega)]
  generalize (r.ins.take j).foldl (srcOne l) out = O at a1 a2 ⊢
  show _ = rec (l.map Rule.lv,x,(srcOne l O (r.ins.getD j (bs []))).map LV.str,at_,r.tup,((j + 1 : Nat) : Int),()) S
  unfold srcOne
  cases outsIn l (r.ins.getD j (bs [])) with
  | true => rfl
  | false =>
   rw [Bool.not_false,ifB_true,str_at r.ins j hj,ref_put hk _ a1 (by omega)]
   rfl
 ·unfold G.smithyardref6_Sources.b1
  dsimp only
  rw [List.length_map,lt_nat,ifB_neg (Nat.lt_irrefl _),List.take_length]
theorem rs_b0 {k : Nat} (hk : Many k) (l : List Rule) (ok : RulesOk l) (fit : RulesFit l) (x : List Nat) (hx : ∀ i ∈ x,i < l.length) (hxl : x.length ≤ 500) (S : List LV) (J : LL × Unit → List LV → Option R) :
  rounds (G.smithyardref6_Sources.b0 k J) k (l.map Rule.lv,ints x,[],0,()) S = J ((srcAll l x).map .str,()) S := by
 have hk' := hk
 unfold Many at hk'
 refine (rounds_scan0 (fun t => (l.map Rule.lv,ints x,(srcAll l (x.take t)).map LV.str,(t : Int),())) S x.length k (fun _ => none) (J ((srcAll l x).map .str,()) S) (fun rec t ht => ?_) (fun rec => ?_) (by omega)).trans (scan_none _ _ (fun _ _ _ => rfl))
 ·have hxt := hx _ (nat_mem x t ht)
  obtain ⟨a1,a2,_⟩ := srcAll_ok fit (x.take t) (out := []) List.Pairwise.nil fun i hi => hx i (List.mem_of_mem_take hi)
  rw [List.length_take] at a2
  have e : srcAll l (x.take (t + 1)) = srcRule l (srcAll l (x.take t)) (x.getD t 0) := by
   unfold srcAll
   rw [take_snoc x t ht,List.foldl_append]; rfl
  unfold G.smithyardref6_Sources.b0
  dsimp only
  rw [ints_len,lt_nat,ifB_pos ht,idxL_nat (by rw [ints_len]; exact ht),ints_get x t ht,leaf_int,idxL_nat (by simpa using hxt),rule_get l _ hxt,Rule.mat,rule_cells]
  refine (rs_b1 hk l ok (l.getD (x.getD t 0) .zero) (fit.fit _ (rule_mem l _ hxt)).im _ _ (srcAll l (x.take t)) a1 (by unfold srcAll; simp at a2; omega) S _).trans ?_
  dsimp only
  rw [wrap_succ (by omega),e]; rfl
 ·unfold G.smithyardref6_Sources.b0
  dsimp only
  rw [ints_len,lt_nat,ifB_neg (Nat.lt_irrefl _),List.take_length]
noncomputable def srcR (l : List Rule) (w : List ByteArray) : List ByteArray := cond ((planS l w).2 == 0) (srcAll l (planS l w).1) []
theorem plan_check {l : List Rule} {w : List ByteArray} (h : (planS l w).2 = 0) : checkRulesS l = 0 := by
 cases hc : checkRulesS l == 0 with
 | true => exact eq_of_beq hc
 | false =>
  unfold planS at h
  rw [hc] at h
  have : checkRulesS l = 0 := h
  rw [this] at hc; cases hc
theorem ref_Sources {k : Nat} (hk : Many k) (l : List Rule) (ok : RulesOk l) (w : List ByteArray) (S : List LV) (K : LL × Int × Unit → List LV → Option R) : G.smithyardref6_Sources.fn k (l.map Rule.lv,w.map .str,()) S K = K ((srcR l w).map .str,(planS l w).2,()) S := by
 unfold G.smithyardref6_Sources.fn srcR
 dsimp only
 rw [ref_plan hk l ok]
 dsimp only
 rw [ne0]
 cases hc : (planS l w).2 == 0 with
 | true =>
  have h0 := eq_of_beq hc
  rw [Bool.not_true,ifB_false,h0]
  exact rs_b0 hk l ok (check_fit (plan_check h0)) _ (planS_lt l w) (planS_small l w) S _
 | false => rfl
theorem prog_Sources' {k : Nat} (hk : Many k) (l : List Rule) (ok : RulesOk l) (w : List ByteArray) (S : List LV) (K : LL × Int × Unit → List LV → Option R) : G.steps_Sources.fn k (l.map Rule.lv,w.map .str,()) S K = K ((srcR l w).map .str,(planS l w).2,()) S := by
 obtain ⟨L,h1,h2,h3⟩ := prog_Sources hk l ok w
 rw [h3]
 congr 2
 congr 1
 unfold srcR
 cases hc : (planS l w).2 == 0 with
 | true =>
  have h0 := eq_of_beq hc
  obtain ⟨a,b⟩ := h1 h0
  obtain ⟨c,_,d⟩ := srcAll_ok (check_fit (plan_check h0)) (planS l w).1 (out := []) List.Pairwise.nil (planS_lt l w)
  exact sortedB_uniq a c fun p => (b p).trans ((d p).trans ⟨fun h => h.resolve_left (by simp),.inr⟩).symm
 | false => exact h2 (fun h => by rw [h] at hc; cases hc)
theorem srcR_len (l : List Rule) (w : List ByteArray) : (srcR l w).length ≤ 500000 := by
 unfold srcR
 cases hc : (planS l w).2 == 0 with
 | true =>
  have h0 := eq_of_beq hc
  obtain ⟨_,d,_⟩ := srcAll_ok (check_fit (plan_check h0)) (planS l w).1 (out := []) List.Pairwise.nil (planS_lt l w)
  have := planS_small l w
  show (srcAll l (planS l w).1).length ≤ _
  unfold srcAll
  simp at d
  omega
 | false => exact Nat.zero_le _
theorem law12 {k : Nat} (hk : Many k) (l : List Rule) (h : LawOk l) (w : List ByteArray) (hw : w.length * 16 ≤ 140737488351232) (S : List LV) (K : Bool × Unit → List LV → Option R) : G.smithyardlaw6_StepsOrdersMatchSpec.fn k (l.map Rule.lv,w.map .str,()) S K = K (true,()) S := by
 have e : namesOf l (planS l w).1 = ((planS l w).1.map (ruleName l)).map .str := by unfold namesOf; rw [List.map_map]; rfl
 have hpl := planS_small l w
 have hsl := srcR_len l w
 unfold G.smithyardlaw6_StepsOrdersMatchSpec.fn
 dsimp only
 rw [ref_CopyRules hk l h.room h.cp]
 dsimp only
 rw [clone_str k _ (by simpa using hw)]
 dsimp only
 rw [prog_Order hk l h.ok]
 dsimp only
 rw [ref_Order hk l h.ok]
 dsimp only
 rw [prog_Sources' hk l h.ok]
 unfold G.smithyardlaw6_StepsOrdersMatchSpec.q0
 dsimp only
 rw [ref_Sources hk l h.ok]
 unfold G.smithyardlaw6_StepsOrdersMatchSpec.q1
 dsimp only
 rw [show (orderR l w).1 = ((planS l w).1.map (ruleName l)).map .str from e,eq_strs hk _ (by simp; omega)]
 dsimp only
 rw [ifB_true,beq_self_eq_true,ifB_true,eq_strs hk _ (by omega)]
 dsimp only
 rw [ifB_true,beq_self_eq_true,ifB_true,ref_SameRules hk l h.ok.n h.len]
 dsimp only
 rw [ifB_true,eq_strs hk _ (by omega)]
 dsimp only
 rw [ifB_true,awake_true hk]
end
end Go.Lm
namespace Go.Lm
section
variable {P : Program}
inductive Ty where
 | int (k : IntKind) | bool | str | sl (z bytes : Nat) (e : Ty) | nil | cons (a b : Ty)
def Ty.T : Ty → Type
 | .int _ => Int
 | .bool => Bool
 | .str => ByteArray
 | .sl _ _ e => List e.T
 | .nil => Unit
 | .cons a b => a.T × b.T
def Ty.n : Ty → Nat
 | .nil => 0
 | .cons a b => a.n + b.n
 | _ => 1
def Ty.isStruct : Ty → Bool
 | .nil => true
 | .cons _ _ => true
 | _ => false
def Ty.cells : (t : Ty) → t.T → List LV
 | .int k,n => [.int k n]
 | .bool,b => [.bool b]
 | .str,s => [.str s]
 | .sl z _ e,xs => [.sl z (xs.map fun x => match e.isStruct with
  | true => .agg (e.cells x)
  | false => (e.cells x).getD 0 .any)]
 | .nil,_ => []
 | .cons a b,x => a.cells x.1 ++ b.cells x.2
def Ty.elem (e : Ty) (x : e.T) : LV := match e.isStruct with
 | true => .agg (e.cells x)
 | false => (e.cells x).getD 0 .any
def Ty.ok : (t : Ty) → t.T → Prop
 | .int k,n => (Lit.int k n).wf = true
 | .bool,_ => True
 | .str,s => s.size ≤ 140737488351232
 | .sl _ bytes e,(xs : List e.T) => xs.length * bytes ≤ 140737488351232 ∧ xs.length ≤ 9223372036854775807 ∧ ∀ x,x ∈ xs → e.ok x
 | .nil,_ => True
 | .cons a b,x => a.ok x.1 ∧ b.ok x.2
def tyFs (P : Program) (f : TypeId → Option Ty) : Nat → List Field → Option Ty
 | _,[] => some .nil
 | off,fd :: fs => match f fd.type,Nat.beq fd.offset off with
  | some a,true => (match tyFs P f (off + a.n) fs with
   | some b => (match Nat.beq (P.cellsOf fd.type) a.n with
    | true => some (.cons a b)
    | false => none)
   | none => none)
  | _,_ => none
def tyOf (P : Program) : Nat → TypeId → Option Ty
 | 0,_ => none
 | n + 1,t => match P.underlying t with
  | some (.int k) => some (.int k)
  | some .bool => some .bool
  | some .string => some .str
  | some (.slice e) => (match tyOf P n e with
   | some a => (match Nat.beq (P.cellsOf e) a.n && Nat.blt 0 a.n with
    | true => some (.sl a.n (P.bytesOf e) a)
    | false => none)
   | none => none)
  | some (.struct fs) => (match tyFs P (tyOf P n) 0 fs.toList with
   | some a => (match Nat.beq (P.cellsOf t) a.n with
    | true => some a
    | false => none)
   | none => none)
  | _ => none
theorem Ty.cells_len : ∀ (t : Ty) (x : t.T),(t.cells x).length = t.n
 | .int _,_ => rfl
 | .bool,_ => rfl
 | .str,_ => rfl
 | .sl _ _ _,_ => rfl
 | .nil,_ => rfl
 | .cons a b,x => by simp [Ty.cells,Ty.n,Ty.cells_len a,Ty.cells_len b]
theorem Ty.n_one : ∀ (t : Ty),t.isStruct = false → t.n = 1
 | .int _,_ => rfl
 | .bool,_ => rfl
 | .str,_ => rfl
 | .sl _ _ _,_ => rfl
 | .nil,h => by cases h
 | .cons a b,h => by cases h
theorem Ty.leaf_elem (e : Ty) (x : e.T) (j : Nat) (hj : j < e.n) : leaf (e.elem x) j = (e.cells x).getD j .any := by
 unfold Ty.elem
 cases hs : e.isStruct with
 | true => rfl
 | false =>
  have h1 := e.n_one hs
  have : j = 0 := by omega
  subst this
  cases e with
  | nil => cases hs
  | cons a b => cases hs
  | _ => rfl
def Cx.start (w : World) : Cx := { ι := fun _ => 0,n := 0,I := fun b o => (w.cell? ⟨b,o,none⟩).isSome,w := w }
def RepC (c : Cx) (xs : List LV) (cs : List Value) : Prop := xs.length = cs.length ∧ ∀ i,i < cs.length → Rep c (xs.getD i .any) (cs.getD i undef) [] ∧ (cs.getD i undef).oneCell' = true
theorem mapM_get {α β : Type} {f : α → Option β} : ∀ {l : List α} {r : List β},l.mapM f = some r → r.length = l.length ∧ ∀ (i : Nat) (a : α),l[i]? = some a → ∃ b,f a = some b ∧ r[i]? = some b
 | [],r,h => by simp at h; subst h; exact ⟨rfl,fun i a h => by simp at h⟩
 | a :: l,r,h => by
  simp only [List.mapM_cons,Option.bind_eq_bind,Option.bind_eq_some_iff,Option.pure_def,Option.some.injEq] at h
  obtain ⟨b,hb,r',hr',rfl⟩ := h
  obtain ⟨h1,h2⟩ := mapM_get hr'
  refine ⟨by simp [h1],fun i x hx => ?_⟩
  cases i with
  | zero => simp at hx; subst hx; exact ⟨b,hb,by simp⟩
  | succ i => simp at hx; obtain ⟨b',h3,h4⟩ := h2 i x hx; exact ⟨b',h3,by simpa using h4⟩
theorem cells?_get {w : World} {base : Nat} {a : Addr} {n : Nat} {r : List Value} (h : w.cells? base a n = some r) : r.length = n ∧ ∀ i,i < n → w.cell? (a.add i) = some (r.getD i undef) := by
 unfold World.cells? at h
 split at h
 ·obtain ⟨h1,h2⟩ := mapM_get h
  refine ⟨by simpa using h1,fun i hi => ?_⟩
  obtain ⟨b,h3,h4⟩ := h2 i i (by simp [hi])
  rw [h3,List.getD_eq_getElem?_getD,h4]; rfl
 ·cases h
theorem cell_spot {w : World} {a : Addr} {v : Value} (h : w.cell? a = some v) : a.spot = none := by
 unfold World.cell? at h
 split at h
 ·split at h
  ·cases h
  ·rename_i hs; cases ha : a.spot with
   | none => rfl
   | some s => simp [ha] at hs
 ·cases h
theorem weights_elem {H : Type} {e : TypeId} {l : List (DataW H)} {d : DataW H} (hd : d ∈ l) : ∀ n,n ∈ d.weights P e → n ∈ DataW.weightsAll P e l := by
 intro n hn
 induction l with
 | nil => cases hd
 | cons x l ih =>
  simp only [DataW.weightsAll,List.mem_append]
  rcases List.mem_cons.1 hd with rfl | hd
  ·exact .inl hn
  ·exact .inr (ih hd)
section
variable {H : Type} {enc : TypeId × Value → H} {w : World} {base : Nat} {spare : Nat → Bool} {held : Bool}
theorem read_ok : ∀ (n : Nat) (t : TypeId) (τ : Ty) (fuel : Nat) (cs : List Value) (d : DataW H) (ps : List MemPlace),tyOf P n t = some τ → DataW.trod enc P w base spare held fuel t cs = some (d,ps) →
  (∀ m,m ∈ d.weights P t → m ≤ reachBytes) → ∃ x : τ.T,τ.ok x ∧ RepC (Cx.start w) (τ.cells x) cs
 | 0,t,τ,fuel,cs,d,ps,ht,_,_ => by cases ht
 | n + 1,t,τ,fuel,cs,d,ps,ht,h,hw => by
  have fields : ∀ (m : Nat) (fs : List Field) (off : Nat) (τ : Ty) (xs : List (DataW H × List MemPlace)),tyFs P (tyOf P n) off fs = some τ → xs.length = fs.length → (∀ (i : Nat) (f : Field),fs[i]? = some f → DataW.trod enc P w base spare held m f.type ((cs.drop f.offset).take (P.cellsOf f.type)) = xs[i]?) →
    (∀ m,m ∈ DataW.weightsEach P (fs.map (·.type)) (xs.map (·.1)) → m ≤ reachBytes) → off + τ.n ≤ cs.length → ∃ x : τ.T,τ.ok x ∧ RepC (Cx.start w) (τ.cells x) ((cs.drop off).take τ.n) := by
   intro m fs
   induction fs with
   | nil =>
    intro off τ xs hτ _ _ _ _
    simp only [tyFs,Option.some.injEq] at hτ
    subst hτ
    exact ⟨(),trivial,by simp [Ty.cells,Ty.n],fun i hi => by simp [Ty.n] at hi⟩
   | cons f fs ih =>
    intro off τ xs hτ hxl hm hwt hle
    simp only [tyFs] at hτ
    split at hτ
    ·rename_i a ha hoff
     split at hτ
     ·rename_i b hb
      split at hτ
      ·rename_i hca
       cases hτ
       have hoff := Nat.eq_of_beq_eq_true hoff
       have hca := Nat.eq_of_beq_eq_true hca
       cases xs with
       | nil => simp at hxl
       | cons y ys =>
       obtain ⟨y,yp⟩ := y
       have hy := hm 0 f (by simp)
       simp only [List.getElem?_cons_zero] at hy
       simp only [Ty.n] at hle ⊢
       obtain ⟨x1,ok1,hl1,hr1⟩ := read_ok n f.type a m _ y yp ha hy (fun m hm => hwt m (by simp only [List.map_cons,DataW.weightsEach,List.mem_append]; exact .inl hm))
       obtain ⟨x2,ok2,hl2,hr2⟩ := ih (off + a.n) b ys hb (by simpa using hxl) (fun i f hf => by have := hm (i + 1) f (by simpa using hf); simpa using this) (fun m hm => hwt m (by simp only [List.map_cons,DataW.weightsEach,List.mem_append]; exact .inr hm)) (by omega)
       rw [hoff,hca] at hl1 hr1
       have la := a.cells_len x1
       have lb := b.cells_len x2
       refine ⟨(x1,x2),⟨ok1,ok2⟩,by simp [Ty.cells,la,lb]; omega,fun i hi => ?_⟩
       have hi' : i < a.n + b.n := by simp at hi; omega
       have e0 : ((cs.drop off).take (a.n + b.n)).getD i undef = cs.getD (off + i) undef := by
        simp only [List.getD_eq_getElem?_getD,List.getElem?_take,List.getElem?_drop]; rw [if_pos hi']
       by_cases h1 : i < a.n
       ·have e1 : (a.cells x1 ++ b.cells x2).getD i .any = (a.cells x1).getD i .any := getD_app_lt _ _ _ _ (by rw [la]; exact h1)
        have e2 : ((cs.drop off).take a.n).getD i undef = cs.getD (off + i) undef := by
         simp only [List.getD_eq_getElem?_getD,List.getElem?_take,List.getElem?_drop]; rw [if_pos h1]
        have := hr1 i (by simp; omega)
        rw [e2] at this
        show Rep _ ((a.cells x1 ++ b.cells x2).getD i .any) _ [] ∧ _
        rw [e0,e1]; exact this
       ·have e1 : (a.cells x1 ++ b.cells x2).getD i .any = (b.cells x2).getD (i - a.n) .any := by
         simp only [List.getD_eq_getElem?_getD]; rw [List.getElem?_append_right (by rw [la]; omega),la]
        have e2 : ((cs.drop (off + a.n)).take b.n).getD (i - a.n) undef = cs.getD (off + i) undef := by
         simp only [List.getD_eq_getElem?_getD,List.getElem?_take,List.getElem?_drop]; rw [if_pos (by omega)]; congr 2; omega
        have := hr2 (i - a.n) (by simp; omega)
        rw [e2] at this
        show Rep _ ((a.cells x1 ++ b.cells x2).getD i .any) _ [] ∧ _
        rw [e0,e1]; exact this
      ·cases hτ
     ·cases hτ
    ·cases hτ
  have one : ∀ {v : Value} {x : LV},cs = [v] → Rep (Cx.start w) x v [] → v.oneCell' = true → RepC (Cx.start w) [x] cs := fun {v x} hc hr h1 => by
   subst hc
   exact ⟨rfl,fun i hi => by
    have : i = 0 := by simpa using hi
    subst this; simpa using ⟨hr,h1⟩⟩
  unfold tyOf at ht
  split at ht
  ·rename_i k hu
   cases ht
   obtain ⟨m,hc,hx,hwf⟩ := DataW.trod_int hu h
   exact ⟨m,hwf,one hc (.int _ _) rfl⟩
  ·rename_i hu
   cases ht
   obtain ⟨m,hc,hx⟩ := DataW.trod_bool hu h
   exact ⟨m,trivial,one hc (.bool _) rfl⟩
  ·rename_i hu
   cases ht
   obtain ⟨m,hc,hx,_⟩ := DataW.trod_string hu h
   cases hx
   refine ⟨m,?_,one hc (.str _) rfl⟩
   have := hw m.data.toList.length (by simp [DataW.weights])
   simpa [Ty.ok,reachBytes] using this
  ·rename_i e hu
   split at ht
   ·rename_i a ha
    split at ht
    ·rename_i hb
     simp only [Bool.and_eq_true] at hb
     have hce := Nat.eq_of_beq_eq_true hb.1
     have hpos : 0 < a.n := Nat.le_of_ble_eq_true hb.2
     cases ht
     rcases DataW.trod_slice hu h with ⟨hc,hx⟩ | ⟨ad,len,cap,elems,rest,m,_,hc,hx,_,hlc,hcm,hel,hget,_⟩
     ·exact ⟨([] : List a.T),⟨by simp,by simp,fun x hx => by simp at hx⟩,one hc (.sl0 _ none 0 (fun _ => rfl)) rfl⟩
     ·cases hx
      have hwt : ∀ m,m ∈ DataW.weightsAll P e (elems.map (·.1)) → m ≤ reachBytes := fun m hm => hw m (by simp only [DataW.weights,hu,List.mem_cons,List.mem_append]; exact .inr (.inl hm))
      have each : ∀ i,i < len → ∃ x : a.T,a.ok x ∧ ∃ row : List Value,row.length = a.n ∧ (∀ j,j < a.n → w.cell? ((ad.add (i * a.n)).add j) = some (row.getD j undef)) ∧ RepC (Cx.start w) (a.cells x) row := by
       intro i hi
       have hy := hget i hi
       have hi' : i < elems.length := by omega
       rw [List.getElem?_eq_getElem hi'] at hy
       simp only [Option.bind_eq_some_iff] at hy
       obtain ⟨row,hrow,hy⟩ := hy
       rw [hce] at hrow
       obtain ⟨h1,h2⟩ := cells?_get hrow
       obtain ⟨x,hok,hrep⟩ := read_ok n e a m row elems[i].1 elems[i].2 ha hy (fun m hm => hwt m (weights_elem (List.mem_map.2 ⟨_,List.getElem_mem hi',rfl⟩) m hm))
       exact ⟨x,hok,row,h1,h2,hrep⟩
      have all : ∀ k,k ≤ len → ∃ xs : List a.T,xs.length = k ∧ ∀ i (hi : i < xs.length),a.ok xs[i] ∧ ∃ row : List Value,row.length = a.n ∧ (∀ j,j < a.n → w.cell? ((ad.add (i * a.n)).add j) = some (row.getD j undef)) ∧ RepC (Cx.start w) (a.cells xs[i]) row := by
       intro k
       induction k with
       | zero => intro _; exact ⟨[],rfl,fun i hi => by simp at hi⟩
       | succ k ih =>
        intro hk
        obtain ⟨xs,hl,hxs⟩ := ih (by omega)
        obtain ⟨x,hx⟩ := each k (by omega)
        refine ⟨xs ++ [x],by simp [hl],fun i hi => ?_⟩
        by_cases h1 : i < xs.length
        ·rw [List.getElem_append_left h1]; exact hxs i h1
        ·have : i = k := by simp at hi; omega
         subst this
         rw [List.getElem_append_right (by omega)]
         simpa [hl] using hx
      obtain ⟨xs,hl,hxs⟩ := all len (Nat.le_refl _)
      have hsz := hw ((elems.length + rest.length) * P.bytesOf e) (by simp [DataW.weights,hu])
      have hmax : cap ≤ 9223372036854775807 := hcm
      refine ⟨xs,⟨?_,?_,fun x hx => ?_⟩,?_⟩
      ·show xs.length * _ ≤ _
       rw [hl,← hel]
       refine Nat.le_trans (Nat.mul_le_mul_right _ (Nat.le_add_right _ rest.length)) ?_
       simpa [reachBytes] using hsz
      ·show xs.length ≤ _
       omega
      ·obtain ⟨i,hi,rfl⟩ := List.mem_iff_getElem.1 hx
       exact (hxs i hi).1
      ·refine one hc ?_ rfl
       have hmapl : (xs.map fun x => match a.isStruct with | true => LV.agg (a.cells x) | false => (a.cells x).getD 0 .any) = xs.map a.elem := rfl
       show Rep _ (.sl a.n (xs.map fun x => match a.isStruct with | true => LV.agg (a.cells x) | false => (a.cells x).getD 0 .any)) _ _
       rw [hmapl]
       by_cases h0 : len = 0
       ·have : xs = [] := List.eq_nil_of_length_eq_zero (by omega)
        subst this
        subst h0
        exact .sl0 _ (some ad) cap (fun h => by cases h)
       ·obtain ⟨_,row0,_,hr0,_⟩ := hxs 0 (by omega)
        have hs := hr0 0 hpos
        have hadd : (ad.add (0 * a.n)).add 0 = ad := by simp [Addr.add]
        rw [hadd] at hs
        have hspot := cell_spot hs
        have had : ad = ⟨ad.block,ad.off,none⟩ := by cases ad; simp only at hspot; subst hspot; rfl
        have addr : ∀ i j,(ad.add (i * a.n)).add j = ⟨ad.block,ad.off + (i * a.n + j),none⟩ := fun i j => by
         have : (ad.add (i * a.n)).add j = ((⟨ad.block,ad.off,none⟩ : Addr).add (i * a.n)).add j := by rw [← had]
         rw [this,Addr.add_lit,Addr.add_lit,Nat.add_assoc]
        have cell : ∀ p,p < len * a.n → ∃ (x : a.T) (row : List Value),xs[p / a.n]? = some x ∧ row.length = a.n ∧ w.cell? ⟨ad.block,ad.off + p,none⟩ = some (row.getD (p % a.n) undef) ∧ RepC (Cx.start w) (a.cells x) row := fun p hp => by
         have hd : p / a.n < xs.length := by rw [hl]; exact Nat.div_lt_of_lt_mul (by rw [Nat.mul_comm]; exact hp)
         have hm := Nat.mod_lt p hpos
         obtain ⟨_,row,h1,h2,h3⟩ := hxs _ hd
         have := h2 _ hm
         rw [addr,Nat.div_add_mod' p a.n] at this
         exact ⟨xs[p / a.n],row,by simp [hd],h1,this,h3⟩
        have := Rep.sl (c := Cx.start w) a.n ad.block ad.off cap (xs.map a.elem) (fun p => (w.cell? ⟨ad.block,ad.off + p,none⟩).getD undef) (by simp [hl]; exact hlc) (by simp [hl]; omega)
         (fun p hp => by
          simp only [List.length_map,hl] at hp
          obtain ⟨x,row,_,_,h1,_⟩ := cell p hp
          show w.cell? _ = _
          rw [h1]; rfl)
         (fun p hp => by
          simp only [List.length_map,hl] at hp
          obtain ⟨x,row,_,_,h1,_⟩ := cell p hp
          show (w.cell? _).isSome = true
          rw [h1]; rfl)
         (fun p hp => by
          simp only [List.length_map,hl] at hp
          obtain ⟨x,row,_,h0,h1,h2,h3⟩ := cell p hp
          rw [h1]
          exact (h3 _ (by rw [h0]; exact Nat.mod_lt p hpos)).2)
         (fun p hp => by
          simp only [List.length_map,hl] at hp
          obtain ⟨x,row,hx,h0,h1,h2,h3⟩ := cell p hp
          have hm := Nat.mod_lt p hpos
          have e1 : (xs.map a.elem).getD (p / a.n) .any = a.elem x := by simp [List.getD_eq_getElem?_getD,hx]
          rw [e1,a.leaf_elem x _ hm,h1]
          exact (h3 _ (by rw [h0]; exact hm)).1)
        rw [List.length_map,hl,← had] at this
        exact this
    ·cases ht
   ·cases ht
  ·rename_i fs hu
   split at ht
   ·rename_i a ha
    split at ht
    ·rename_i hb
     have hcl := Nat.eq_of_beq_eq_true hb
     cases ht
     obtain ⟨xs,m,_,hx,hl,hxl,hget⟩ := DataW.trod_struct hu h
     cases hx
     obtain ⟨x,hok,hrep⟩ := fields m fs.toList 0 τ xs ha (by simpa using hxl) (fun i f hf => hget i f (by simpa using hf)) (fun m hm => hw m (by simp only [DataW.weights,hu]; exact hm)) (by omega)
     have : (cs.drop 0).take τ.n = cs := by rw [List.drop_zero,← hcl,← hl,List.take_length]
     rw [this] at hrep
     exact ⟨x,hok,hrep⟩
    ·cases ht
   ·cases ht
  ·cases ht
end
def Ty.arg (t : Ty) (x : t.T) : LV := t.elem x
theorem arg_ok {H : Type} {enc : TypeId × Value → H} {w : World} {base : Nat} {t : TypeId} {τ : Ty} {v : Value} {d : DataW H} {ps : List MemPlace} {n : Nat} (ht : tyOf P n t = some τ) (hv : Value.okWide P w .any base t v)
  (h : DataW.Trod enc P w 0 (fun _ => true) true t v d ps) (hw : ∀ m,m ∈ d.weights P t → m ≤ reachBytes) : ∃ x : τ.T,τ.ok x ∧ Rep (Cx.start w) (τ.arg x) v [] := by
 obtain ⟨fuel,hf⟩ := h
 obtain ⟨x,hok,hl,hr⟩ := read_ok n t τ fuel _ d ps ht hf hw
 refine ⟨x,hok,?_⟩
 have hlen := τ.cells_len x
 have single : τ.isStruct = false → v.cells.toList = [v] → Rep (Cx.start w) (τ.arg x) v [] := fun hs hc => by
  have h1 := τ.n_one hs
  have := (hr 0 (by rw [← hl,hlen,h1]; exact Nat.one_pos)).1
  rw [hc] at this
  have e : τ.arg x = (τ.cells x).getD 0 .any := by unfold Ty.arg Ty.elem; rw [hs]
  rw [e]
  simpa using this
 cases n with
 | zero => cases ht
 | succ n =>
  unfold tyOf at ht
  split at ht
  ·rename_i k hu
   cases ht
   obtain ⟨m,rfl⟩ := WideShapes.okWide_int hu hv
   exact single rfl rfl
  ·rename_i hu
   cases ht
   obtain ⟨m,rfl⟩ := WideShapes.okWide_bool hu hv
   exact single rfl rfl
  ·rename_i hu
   cases ht
   obtain ⟨m,rfl⟩ := WideShapes.okWide_string hu hv
   exact single rfl rfl
  ·rename_i e hu
   obtain ⟨a,len,cap,rfl⟩ := WideShapes.okWide_slice hu hv
   split at ht
   ·split at ht
    ·cases ht; exact single rfl rfl
    ·cases ht
   ·cases ht
  ·rename_i fs hu
   obtain ⟨cs,rfl,hcs⟩ := WideShapes.okWide_struct hu hv
   have hst : τ.isStruct = true := by
    split at ht
    ·rename_i a ha
     split at ht
     ·cases ht
      cases hfs : fs.toList with
      | nil => rw [hfs] at ha; simp [tyFs] at ha; subst ha; rfl
      | cons f fs' =>
       rw [hfs] at ha
       simp only [tyFs] at ha
       split at ha
       ·split at ha
        ·split at ha
         ·cases ha; rfl
         ·cases ha
        ·cases ha
       ·cases ha
     ·cases ht
    ·cases ht
   have e : τ.arg x = .agg (τ.cells x) := by unfold Ty.arg Ty.elem; rw [hst]
   rw [e]
   refine .agg _ cs (by rw [hl]; rfl) (fun i hi => ?_)
   have := (hr i (by rw [← hl]; exact hi)).1
   simpa [Value.cells,List.getD_eq_getElem?_getD,Array.getD_eq_getD_getElem?] using this
  ·cases ht
def globK : LV → Nat
 | .glob k _ => k
 | _ => 0
structure Globs (w : World) (S : List LV) : Prop where
 at' : ∀ id,id < S.length → ∃ k ob,S.getD id .any = .glob k ob ∧ w.heap[k]? = some ob
 ne : ∀ id id',id < S.length → id' < S.length → id ≠ id' → globK (S.getD id .any) ≠ globK (S.getD id' .any)
def Cx.startG (w : World) (S : List LV) : Cx := { ι := fun id => globK (S.getD id .any),n := S.length,I := fun b o => (w.cell? ⟨b,o,none⟩).isSome,w := w }
theorem start_callsG {f : FuncId} {h : Hd (LV × List LV)} (hs : HSound P f h) {args S S' : List LV} {r : LV} {v : Value} {vs : Array Value} {w : World} (hl : vs.size = args.length) (hr : ∀ i,i < args.length → Rep (Cx.start w) (args.getD i .any) (vs.getD i undef) [])
  (hg : Globs w S) (he : h args S (fun v S => some (v,S)) = some (r,S')) (hS' : S.length ≤ S'.length ∧ ∀ id,id < S.length → S'.getD id .any = S.getD id .any) (hv : rigid r = some v) : Calls P f vs w fun e w' => e = .returned v ∧ RowKit.Below w.heap.size w w' := by
 have hext : Ext (Cx.start w) (Cx.startG w S) (fun _ => False) := ⟨Nat.zero_le _,fun id hid => absurd hid (Nat.not_lt_zero _),fun _ _ h => h,fun _ _ _ => rfl,Nat.le_refl _,fun _ _ _ => rfl,fun _ _ _ _ h => h,(fun _ cur _ k _ h => ⟨cur,k,h,rfl⟩),rfl,rfl,rfl⟩
 let o : Ow := fun k => match k with
  | .sto id => (match decide (id < S.length) with | true => [globK (S.getD id .any)] | false => [])
  | _ => []
 have ho : ∀ k g,g ∈ o k → ∃ id,k = .sto id ∧ id < S.length ∧ g = globK (S.getD id .any) := fun k g hg => by
  cases k with
  | env t => cases hg
  | arg i => cases hg
  | sto id =>
   simp only [o] at hg
   split at hg
   ·rename_i hd
    exact ⟨id,rfl,of_decide_eq_true hd,by simpa using hg⟩
   ·cases hg
 have hc := hs.calls he (Cx.startG w S) vs.toList o (by simpa using hl) (fun i hi => by
   have := (hr i hi).ext hext (fun _ h => by cases h)
   simpa [List.getD_eq_getElem?_getD,Array.getD_eq_getD_getElem?] using this) ⟨rfl,fun id hid => by
    obtain ⟨k,ob,hk,hob⟩ := hg.at' id hid
    have e : (Cx.startG w S).ι id = k := by simp only [Cx.startG,hk,globK]
    have e2 : o (.sto id) = [k] := by simp only [o,decide_eq_true hid,hk,globK]
    rw [hk,e2]
    show Rep _ _ (.pointer (some ⟨(Cx.startG w S).ι id,0,none⟩)) _
    rw [e]
    exact .glob k ob hob,fun b p hb => by
   have hb : (w.cell? ⟨b,p,none⟩).isSome = true := hb
   rcases Nat.lt_or_ge b w.heap.size with h | h
   ·exact h
   ·simp [World.cell?,Array.getElem?_eq_none h] at hb⟩ ⟨fun k => by
    cases k with
    | env t => exact List.nodup_nil
    | arg i => exact List.nodup_nil
    | sto id => simp only [o]; split <;> simp,fun k k' g hne hg1 hg2 => by
    obtain ⟨id,rfl,h1,h2⟩ := ho k g hg1
    obtain ⟨id',rfl,h3,h4⟩ := ho k' g hg2
    exact hg.ne id id' h1 h3 (fun e => hne (by rw [e])) (h2.symm.trans h4)⟩ (fun k g hg1 => by
    obtain ⟨id,rfl,h1,rfl⟩ := ho k g hg1
    obtain ⟨k,ob,hk,hob⟩ := hg.at' id h1
    rw [hk]
    exact (Array.getElem?_eq_some_iff.1 hob).1)
 refine Calls.mono hc ?_
 rintro e w' ⟨c',u,o',rfl,rfl,hext,hrep,hsto,_,_,_⟩
 have hu := rigid_rep hv hrep
 subst hu
 refine ⟨rfl,⟨hext.os,hext.tape,hext.output,hext.size,fun b hb => ?_⟩⟩
 by_cases hm : ∃ k,b ∈ o k
 ·obtain ⟨k,hk⟩ := hm
  obtain ⟨id,rfl,h1,rfl⟩ := ho k b hk
  obtain ⟨k,ob,hk,hob⟩ := hg.at' id h1
  have h2 := hsto.r id (Nat.lt_of_lt_of_le h1 hS'.1)
  rw [hS'.2 id h1,hk] at h2
  rw [hk]
  show c'.w.heap[k]? = w.heap[k]?
  rw [hob]
  generalize oval (.glob k ob) (c'.ι id) = z at h2
  generalize o' (.sto id) = O at h2
  cases h2 with
  | glob _ _ hh => exact hh
 ·exact hext.block b hb hm
theorem sized_each {H : Type} {ts : List TypeId} {ds : List (DataW H)} (h : (DataW.weightsEach P ts ds).all (· ≤ reachBytes) = true) {j : Nat} {t : TypeId} {d : DataW H} (ht : ts[j]? = some t) (hd : ds[j]? = some d) : ∀ m,m ∈ d.weights P t → m ≤ reachBytes := fun m hm =>
 of_decide_eq_true (List.all_eq_true.1 h _ (DataW.weights_mem_each ht hd m hm))
end
end Go.Lm
