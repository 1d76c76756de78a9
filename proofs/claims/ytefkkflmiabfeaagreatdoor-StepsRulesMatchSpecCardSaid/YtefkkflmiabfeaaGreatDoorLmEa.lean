/- One operation: bytes and strings; all operations together. -/
import Derived.Test.YtefkkflmiabfeaaGreatDoorLmE8
import Derived.Test.YtefkkflmiabfeaaGreatDoorLmEp
set_option linter.unusedVariables false
set_option linter.unusedSimpArgs false
namespace Go.Lm
section
variable {R : Type} {P : Program} {T : Nat → Option TI} {C : Nat → Hd R}

theorem strL_some : ∀ (xs : List LV) (l : List UInt8), strL xs = some l → ∃ ns : List Int, xs = ns.map (.int .u8) ∧ l = ns.map (fun n => UInt8.ofNat n.toNat)
  | [], l, h => by simp [strL] at h; exact ⟨[], rfl, by simp [h]⟩
  | x :: xs, l, h => by
    cases x with
    | int k n =>
      cases k <;> simp only [strL] at h <;> try (cases h; done)
      cases hq : strL xs with
      | none => rw [hq] at h; simp at h
      | some l' =>
        rw [hq] at h
        simp at h
        obtain ⟨ns, rfl, rfl⟩ := strL_some xs l' hq
        exact ⟨n :: ns, rfl, by simp [← h]⟩
    | _ => simp [strL] at h
theorem foldl_push : ∀ (ns : List Int) (s : ByteArray), ns.foldl (fun r n => r.push (UInt8.ofNat n.toNat)) s = ⟨s.data ++ (ns.map fun n => UInt8.ofNat n.toNat).toArray⟩
  | [], s => by simp
  | n :: ns, s => by
    rw [List.foldl_cons, foldl_push ns]
    congr 1
    apply Array.ext'
    simp [ByteArray.push]

theorem ok_convBytes {o : Oper} {q : Q} {s t e : TypeId} {x : Operand} {xs : List LV} {l : List UInt8} (ho : o.op = .convert s t x) (hs : P.underlying s = some (.slice e)) (he : P.underlying e = some (.int .u8)) (ht : P.underlying t = some .string)
    (hx : ∀ {c : Cx} {w : Value} {O : List Nat}, Rep c (ev q.E x) w O → Rep c (.sl 1 xs) w []) (hl : strL xs = some l) : OpOk P q o (.str ⟨l.toArray⟩) none q :=
  op_pure fun fr a c hr => by
    obtain ⟨O, r⟩ := hr.evr x
    obtain ⟨A, cap, hv, hcap, hmax, hcells⟩ := rep_sl (hx r)
    obtain ⟨ns, rfl, rfl⟩ := strL_some _ _ hl
    refine ⟨.string ⟨(ns.map fun n => UInt8.ofNat n.toNat).toArray⟩, ?_, .str _⟩
    have hconv : (Conv.bytesToString (a.eval x)).run P c.w = .ok (.string ⟨(ns.map fun n => UInt8.ofNat n.toNat).toArray⟩) c.w := by
      have hempty : (⟨#[]⟩ : ByteArray) = ByteArray.empty := rfl
      rw [hv]
      rcases Nat.eq_zero_or_pos ns.length with h0 | h0
      · have : ns = [] := List.eq_nil_of_length_eq_zero h0
        subst this
        cases A with
        | none => simp [Conv.bytesToString, hempty]
        | some ad => exact run_bytesToString c.w ad 0 cap [] (by simp [loadCells, loadCellsFrom])
      · obtain ⟨b, off, cv, rfl, hc, hI, h1, hr1⟩ := hcells (by simpa using h0)
        have h2 := run_bytesToString (P := P) c.w ⟨b, off, none⟩ ns.length cap ns (by
          have := run_loadCells (P := P) c.w ⟨b, off, none⟩ ns.length cv (fun j hj => by rw [Addr.add_lit]; exact hc j (by simpa using hj))
          rw [this]
          congr 2
          apply List.ext_getElem?
          intro j
          by_cases hj : j < ns.length
          · have h3 := hr1 j (by simpa using hj)
            have h4 : leaf (((ns.map (LV.int .u8)).getD (j / 1) .any)) (j % 1) = .int .u8 ns[j] := by
              simp [List.getD_eq_getElem?_getD, hj, leaf, Nat.mod_one]
            rw [h4] at h3
            simp [hj, rep_int h3]
          · simp [hj])
        rw [foldl_push] at h2
        simp only [List.length_map]
        rw [h2]
        simp
    simp [execOp, ho, convert, run_underlying hs, run_underlying ht, run_underlying he, hv]
    rw [hv] at hconv
    simp only [List.length_map] at hconv ⊢
    rw [hconv]
    rfl

theorem rep_bytes {c : Cx} {s : ByteArray} {b off cap : Nat} (hcap : s.size ≤ cap) (hmx : s.size ≤ 9223372036854775807) (hc : ∀ p, p < s.size → c.w.cell? ⟨b, off + p, none⟩ = some (.int .u8 (s.data.toList.getD p 0).toNat)) (hI : ∀ p, p < s.size → c.I b (off + p)) :
    Rep c (.sl 1 (bytesL s)) (.slice (some ⟨b, off, none⟩) s.size cap) [] := by
  have hl : (bytesL s).length = s.size := by simp [bytesL]
  have := Rep.sl (c := c) 1 b off cap (bytesL s) (fun p => .int .u8 (s.data.toList.getD p 0).toNat) (by rw [hl]; exact hcap) (by rw [hl]; exact hmx) (fun p hp => hc p (by rw [hl] at hp; omega)) (fun p hp => hI p (by rw [hl] at hp; omega)) (fun p hp => rfl) (fun p hp => by
    rw [hl] at hp
    have hp' : p < s.size := by omega
    have : leaf ((bytesL s).getD (p / 1) .any) (p % 1) = .int .u8 (s.data.toList.getD p 0).toNat := by
      have h2 : p < s.data.size := hp'
      obtain ⟨y, hy⟩ : ∃ y, s.data[p]? = some y := ⟨_, Array.getElem?_eq_getElem h2⟩
      simp [bytesL, List.getD_eq_getElem?_getD, leaf, Nat.mod_one, hy]
    rw [this]; exact .int _ _)
  rw [hl] at this
  exact this

theorem ok_toBytes {o : Oper} {q : Q} {s t e : TypeId} {x : Operand} {b : ByteArray} (ho : o.op = .convert s t x) (hs : P.underlying s = some .string) (ht : P.underlying t = some (.slice e)) (he : P.underlying e = some (.int .u8)) (hx : ev q.E x = .str b)
    (hmx : b.size ≤ 9223372036854775807) : OpOk P q o (.sl 1 (bytesL b)) none q := by
  refine op_val fun fr a c hr => ?_
  have hv := hr.evStr hx
  obtain ⟨ow, hr⟩ := hr
  generalize hcap : grownCap c.w b.size 0 e = cap
  have hge : b.size ≤ cap := by rw [← hcap]; exact grownCap_ge _ _ _ _
  generalize harr : (b.data.map fun b => Value.int .u8 b.toNat) ++ Array.replicate (cap - b.size) (.int .u8 0) = arr
  have hnew : (c.w.drew.alloc (.cells arr e)).heap[c.w.heap.size]? = some (.cells arr e) := heap_alloc_new c.w.drew _
  have hrun : (execOp a.eval o).run P c.w = .ok (.value (.slice (some ⟨c.w.heap.size, 0, none⟩) b.size cap)) ((c.w.drew.alloc (.cells arr e)).freeze ⟨c.w.heap.size, arr.size, none⟩ 1) := by
    have hsh : (c.w.drew.alloc (.cells arr e)).shape? c.w.heap.size = some (e, arr.size) := by
      unfold World.shape?
      rw [hnew]
    subst harr
    have hcap' : (Question.appendCap b.size 0 e).cut (c.w.tape c.w.drawn (.appendCap b.size 0 e)) = cap := hcap
    simp [execOp, ho, convert, run_underlying hs, run_underlying ht, run_underlying he, hv, Conv.stringToBytes, Question.forced, hcap', newRow, markStringish, hsh]
  have hsame : ∀ k, k ≠ c.w.heap.size → ((c.w.drew.alloc (.cells arr e)).freeze ⟨c.w.heap.size, arr.size, none⟩ 1).heap[k]? = (c.w.drew.alloc (.cells arr e)).heap[k]? := fun k hk => by
    simp [World.freeze, Array.getElem?_modify, Ne.symm hk]
  obtain ⟨c', o', hw, hrel⟩ := hr.fresh' ((c.w.drew.alloc (.cells arr e)).freeze ⟨c.w.heap.size, arr.size, none⟩ 1) (fun k hk => by
      rw [hsame k (by omega)]
      show (c.w.heap.push _)[k]? = _
      rw [Array.getElem?_push, if_neg (by omega)]) (by
      show ((c.w.drew.alloc (.cells arr e)).freeze ⟨c.w.heap.size, arr.size, none⟩ 1).heap.size = _
      simp [World.freeze]) rfl rfl rfl (fun p => p < b.size) (x := .sl 1 (bytesL b)) (v := .slice (some ⟨c.w.heap.size, 0, none⟩) b.size cap)
    (fun c' hw hext hI => ⟨[], .inl rfl, by
      refine rep_bytes hge hmx (fun p hp => ?_) (fun p hp => by rw [Nat.zero_add]; exact (hI p).2 hp)
      have h1 : ∃ fz, c'.w.heap[c.w.heap.size]? = some (.cells arr e fz) := by
        rw [hw]
        simp only [World.freeze, Nat.one_ne_zero, if_false, Array.getElem?_modify, if_true]
        rw [hnew]
        exact ⟨_, rfl⟩
      obtain ⟨fz, h1⟩ := h1
      have h2 : p < b.data.size := hp
      have h3 : arr[p]? = some (.int .u8 (b.data.toList.getD p 0).toNat) := by
        subst harr
        rw [Array.getElem?_append_left (by simpa using h2)]
        obtain ⟨y, hy⟩ : ∃ y, b.data[p]? = some y := ⟨_, Array.getElem?_eq_getElem h2⟩
        simp [List.getD_eq_getElem?_getD, hy]
      simp [World.cell?, h1, h3]⟩)
  refine ⟨c', _, ?_, ⟨o', hrel⟩, fun _ _ h => by cases h⟩
  rw [hw, hrun]

theorem app_some {b : Nat} {ys xs : List LV} {K : List LV → Option R} {r : R} (h : app b ys xs K = some r) : (ys.length + xs.length) * b ≤ 140737488355328 ∧ ys.length + xs.length ≤ 9223372036854775807 ∧ K (ys ++ xs) = some r := by
  unfold app at h
  rcases ifB_some h with ⟨h1, h⟩ | ⟨_, h⟩
  · have := of_decide_eq_true h1; exact ⟨this.1, this.2, h⟩
  · cases h

theorem asOwn_some {e z : Nat} {v : LV} {K : List LV → Option R} {r : R} (h : asOwn e z v K = some r) : ∃ ys, (v = .own e z ys ∨ (v = .nilsl ∧ ys = [])) ∧ K ys = some r := by
  unfold asOwn at h
  split at h
  · rcases ifB_some h with ⟨h1, h2⟩ | ⟨_, h2⟩
    · rw [Bool.and_eq_true] at h1
      have e1 := Nat.eq_of_beq_eq_true h1.1; have e2 := Nat.eq_of_beq_eq_true h1.2; subst e1; subst e2; exact ⟨_, .inl rfl, h2⟩
    · cases h2
  · exact ⟨_, .inr ⟨rfl, rfl⟩, h⟩
  · cases h
theorem stO_some {xs : List LV} {p : Nat} {cs : List LV} {K : List LV → Option R} {r : R} (h : stO xs p cs K = some r) : p + cs.length ≤ xs.length ∧ K (setFrom xs p cs) = some r := by
  unfold stO at h
  rcases ifB_some h with ⟨h1, h⟩ | ⟨_, h⟩
  · exact ⟨Nat.le_of_ble_eq_true h1, h⟩
  · cases h
theorem kdN_inj {kd kd' : KD} (h : kdN kd' = kdN kd) (hl : kdN kd < 12) : kd' = kd := by
  cases kd <;> cases kd' <;> simp [kdN] at h hl ⊢
  · rename_i k k'
    exact ikN_inj (by rw [h]; exact Nat.beq_refl _)
  all_goals (rename_i k; cases k <;> simp [ikN] at h)
theorem mpAt_some {S : List LV} {id : Nat} {kd : KD} {K : List (LV × LV) → Option R} {r : R} (h : mpAt S id kd K = some r) : ∃ kvs, S.getD id .any = .mp kd kvs ∧ K kvs = some r := by
  unfold mpAt at h
  split at h
  · rename_i kd' kvs hx
    rcases ifB_some h with ⟨h1, h2⟩ | ⟨_, h2⟩
    · rw [Bool.and_eq_true] at h1
      have := kdN_inj (Nat.eq_of_beq_eq_true h1.1) (Nat.le_of_ble_eq_true h1.2)
      subst this
      exact ⟨kvs, hx, h2⟩
    · cases h2
  · cases h
theorem keyOk_rigid {kd : KD} {x : LV} (h : keyOk kd x = true) : ∃ v, rigid x = some v := by
  cases kd <;> cases x <;> simp [keyOk] at h <;> exact ⟨_, rfl⟩
theorem oslOr_some {v : LV} {A : Nat → Nat → Nat → Nat → Option R} {B : Option R} {r : R} (h : oslOr v A B = some r) : (∃ id p z n, v = .osl id p z n ∧ A id p z n = some r) ∨ ((∀ {R' : Type} (A' : Nat → Nat → Nat → Nat → Option R') (B' : Option R'), oslOr v A' B' = B') ∧ B = some r) := by
  cases v <;> first | exact .inl ⟨_, _, _, _, rfl, h⟩ | exact .inr ⟨fun _ _ => rfl, h⟩
theorem idxN_some {n : Nat} {i : Int} {K : Nat → Option R} {r : R} (h : idxN n i K = some r) : 0 ≤ i ∧ i < n ∧ K i.toNat = some r := by
  unfold idxN at h
  rcases ifB_some h with ⟨h1, h⟩ | ⟨_, h⟩
  · have := of_decide_eq_true h1; exact ⟨this.1, this.2, h⟩
  · cases h
theorem srcL_some (hT : ∀ t ti, T t = some ti → tiOf P t = some ti) {q : Q} {y : Operand} {t' : TypeId} {ti' : TI} {K : List LV → Option R} {r : R} (hti' : T t' = some ti') (z : Nat) (h : srcL ti'.kd ti'.esz z (ev q.E y) K = some r) :
    ∃ xs, K xs = some r ∧ ∀ {c : Cx} {w : Value} {O : List Nat}, Rep c (ev q.E y) w O → ∃ news : List Value, Src P z t' w xs.length news c.w ∧ news.length = xs.length * z ∧ (∀ p, p < xs.length * z → (news.getD p undef).oneCell' = true) ∧ ∀ p, p < xs.length * z → Rep c (leaf (xs.getD (p / z) .any) (p % z)) (news.getD p undef) [] := by
  unfold srcL at h
  split at h
  · rename_i e2
    rcases ifB_some h with ⟨e3, h⟩ | ⟨_, h⟩
    · obtain ⟨e', j, hd', hj, hsz', _⟩ := tiOf_slice (hT _ _ hti') e2
      have e3 := Nat.eq_of_beq_eq_true e3
      obtain ⟨xs, h, hy⟩ := asSl_some h
      refine ⟨xs, h, fun r => ?_⟩
      have := src_of (i := j) hd' (by rw [← hsz', e3]) (hy r)
      rwa [← hsz', e3] at this
    · cases h
  · rename_i e2
    rcases ifB_some h with ⟨e3, h⟩ | ⟨_, h⟩
    · have e3 := Nat.eq_of_beq_eq_true e3
      obtain ⟨s, hs, h⟩ := asStr_some h
      refine ⟨_, h, fun r => ?_⟩
      rw [e3]
      rw [hs] at r
      obtain ⟨_, d, _, hd2, hk2, _⟩ := tiOf_und (hT _ _ hti')
      rw [e2] at hk2
      obtain rfl := kdOf_str hk2
      exact src_str hd2 r
    · cases h
  · cases h
theorem cellsAt_some {S : List LV} {id : Nat} {K : Nat → List LV → Option R} {r : R} (h : cellsAt S id K = some r) : ∃ mk ty xs, MkO mk ty ∧ S.getD id .any = mk xs ∧ K ty xs = some r := by
  unfold cellsAt at h
  split at h
  · rename_i ty xs hx; exact ⟨_, ty, xs, .inl rfl, hx, h⟩
  · rename_i ty xs hx; exact ⟨_, ty, xs, .inr rfl, hx, h⟩
  · cases h
theorem appO_some {e z bytes : Nat} {S : List LV} {v : LV} {ys : List LV} {K : LV → List LV → Option R} {r : R} (h : appO e z bytes S v ys K = some r) :
    ∃ id n xs, K (.osl S.length 0 z (n + ys.length)) (S.set id .any ++ [.vec e (xs.take (n * z) ++ flatC z ys)]) = some r ∧ 0 < z ∧ (n + ys.length) * bytes ≤ 140737488355328 ∧ n + ys.length ≤ 9223372036854775807 ∧
      ((∃ mk, MkO mk e ∧ v = .osl id 0 z n ∧ S.getD id .any = mk xs ∧ n * z ≤ xs.length) ∨ (v = .nilsl ∧ id = S.length ∧ n = 0 ∧ 0 < ys.length)) := by
  unfold appO at h
  split at h
  · rename_i id p z' n
    obtain ⟨mk, ty, xs, hm, hS, h⟩ := cellsAt_some h
    rcases ifB_some h with ⟨h1, h2⟩ | ⟨_, h⟩
    · simp only [Bool.and_eq_true] at h1
      obtain ⟨⟨⟨⟨⟨a1, a2⟩, a3⟩, a4⟩, a5⟩, a6⟩ := h1
      have a1 := Nat.eq_of_beq_eq_true a1
      have a2 := Nat.eq_of_beq_eq_true a2
      have a3 := Nat.eq_of_beq_eq_true a3
      have a6 := of_decide_eq_true a6
      subst a1; subst a2; subst a3
      exact ⟨id, n, xs, h2, Nat.le_of_ble_eq_true a4, a6.1, a6.2, .inl ⟨mk, hm, rfl, hS, Nat.le_of_ble_eq_true a5⟩⟩
    · cases h
  · rcases ifB_some h with ⟨h1, h⟩ | ⟨_, h⟩
    · simp only [Bool.and_eq_true] at h1
      obtain ⟨⟨a1, a2⟩, a3⟩ := h1
      have a3 := of_decide_eq_true a3
      refine ⟨S.length, 0, [], ?_, Nat.le_of_ble_eq_true a1, a3.1, a3.2, .inr ⟨rfl, rfl, rfl, Nat.le_of_ble_eq_true a2⟩⟩
      have e1 : S.set S.length .any = S := List.set_eq_of_length_le (Nat.le_refl _)
      rw [e1, Nat.zero_mul, List.take_zero, List.nil_append, Nat.zero_add]
      exact h
    · cases h
  · cases h
theorem lop_ok (hT : ∀ t ti, T t = some ti → tiOf P t = some ti) (hC : ∀ f, HSound P f (C f)) (o : Oper) (q : Q) (K : LV → Option (Nat × Nat) → Q → Option R) (r : R)
    (h : lop T C o q K = some r) : ∃ x al q', K x al q' = some r ∧ OpOk P q o x al q' := by
  have hund : ∀ {t ti}, T t = some ti → ∃ d, P.underlying t = some d ∧ ti.kd = kdOf d := fun h => by
    obtain ⟨i, d, _, hd, hk, _⟩ := tiOf_und (hT _ _ h)
    exact ⟨d, hd, hk⟩
  unfold lop at h
  split at h
  · rename_i x ho
    split at h
    · exact ⟨_, _, _, h, ok_move' ho⟩
    · split at h
      · exact ⟨_, _, _, h, ok_moveDup ho⟩
      · obtain ⟨xs, h, hx⟩ := asSl_some h
        exact ⟨_, _, _, h, ok_moveSl ho hx⟩
  · rename_i x ho; exact ⟨_, _, _, h, ok_assign ho⟩
  · rename_i cc x y ho
    obtain ⟨b, hb, h⟩ := asBool_some h
    rcases ifB_some h with ⟨rfl, h⟩ | ⟨rfl, h⟩
    · exact ⟨_, _, _, h, ok_pick ho hb⟩
    · exact ⟨_, _, _, h, ok_pick ho hb⟩
  · rename_i e ho
    split at h
    · rename_i ti ht
      split at h
      · exact ⟨_, _, _, h, ok_alloc ho (hT _ _ ht)⟩
      · exact ⟨_, _, _, h, ok_allocS ho (hT _ _ ht)⟩
    · cases h
  · rename_i e x ho
    split at h
    · rename_i ti ht
      split at h
      · rename_i hb
        rw [Bool.and_eq_true] at hb
        split at h
        · exact ⟨_, _, _, h, ok_box ho (hT _ _ ht) hb.2⟩
        · exact ⟨_, _, _, h, ok_boxS ho hb.2⟩
      · cases h
    · cases h
  · rename_i t ho
    split at h
    · rename_i ti ht
      split at h
      · exact ⟨_, _, _, h, ok_makeMap ho⟩
      · cases h
    · cases h
  · rename_i t x y ho
    split at h
    · rename_i ti ht
      split at h
      · rename_i et k n k' m hk het hx hy
        obtain ⟨e, j, hd, hj, hsz, hbt, hel, _⟩ := tiOf_slice (hT _ _ ht) hk
        rcases ifB_some h with ⟨h1, h2⟩ | ⟨_, h2⟩
        · have hnm := of_decide_eq_true h1
          subst hnm
          unfold mkN at h2
          rcases ifB_some h2 with ⟨h3, h4⟩ | ⟨_, h4⟩
          · have h3 := of_decide_eq_true h3
            subst hel
            refine ⟨_, _, _, h4, ok_makeSlice ho hd hj (hT _ _ het) hsz.symm hx hy h3.1 (by rw [← hbt]; exact h3.2.1) h3.2.2⟩
          · cases h4
        · cases h2
      · cases h
    · cases h
  · rename_i f first cs ho
    split at h
    · rename_i hf; exact ⟨_, _, _, h, ok_makeFunc ho hf⟩
    · cases h
  · rename_i x ho
    split at h
    · obtain ⟨id, p, hx, h⟩ := asPtr_some h
      exact ⟨_, _, _, h, ok_nilCheck ho hx fun r => by cases r; exact ⟨⟨_, rfl⟩, rfl⟩⟩
    split at h
    · rename_i p ha; exact ⟨_, _, _, h, ok_nilCheck_own ho ha⟩
    · split at h
      · rename_i id p hx; exact ⟨_, _, _, h, ok_nilCheck ho hx fun r => by cases r; exact ⟨⟨_, rfl⟩, rfl⟩⟩
      · rename_i v n p hx; exact ⟨_, _, _, h, ok_nilCheck ho hx fun r => by cases r; exact ⟨⟨_, rfl⟩, rfl⟩⟩
      · cases h
  · rename_i t m k ok ho
    split at h
    · rename_i ti ht
      split at h
      · rename_i kt et hk hkt het
        obtain ⟨id, hm, h⟩ := asMap_some h
        obtain ⟨kvs, hS, h⟩ := mpAt_some h
        split at h
        · rename_i hko
          obtain ⟨kv, hkv⟩ := keyOk_rigid hko
          obtain ⟨y, h, hy⟩ := decT_some h
          exact ⟨_, _, _, h, ok_lookup ho (hT _ _ ht) hk (hT _ _ hkt) (hT _ _ het) hm hS rfl hko hkv y hy⟩
        · cases h
      · cases h
    · cases h
  · rename_i t m k y ho
    split at h
    · rename_i ti ht
      split at h
      · rename_i kt hk hkt
        obtain ⟨id, hm, h⟩ := asMap_some h
        obtain ⟨kvs, hS, h⟩ := mpAt_some h
        split at h
        · rename_i hko
          obtain ⟨kv, hkv⟩ := keyOk_rigid hko
          exact ⟨_, _, _, h, ok_mapUpdate ho (hT _ _ ht) hk (hT _ _ hkt) hm (getD_lt hS (by simp)) hS rfl hko hkv⟩
        · cases h
      · cases h
    · cases h
  · rename_i t ps ho
    split at h
    · rename_i ti ht
      split at h
      · rename_i hk
        split at h
        · rename_i z hz; exact ⟨_, _, _, h, ok_build ho (hT _ _ ht) hk hz⟩
        · cases h
      · cases h
    · cases h
  · rename_i t len ps ho
    split at h
    · rename_i ti ht
      split at h
      · rename_i hk
        split at h
        · split at h
          · rename_i hps
            obtain ⟨e, j, hd, hj, _, _, hel, _⟩ := tiOf_slice (hT _ _ ht) hk
            subst hel
            exact ⟨_, _, _, h, ok_buildO ho hps hd hj⟩
          · cases h
        split at h
        · rename_i hb
          simp only [Bool.and_eq_true] at hb
          obtain ⟨e, j, hd, hj, hsz, _, hel, z, hz, hzs, hzo⟩ := tiOf_slice (hT _ _ ht) hk
          subst hel
          have hle := Nat.le_of_ble_eq_true hb.1.1.2
          have hle2 := Nat.le_of_ble_eq_true hb.1.2
          refine ⟨_, _, _, h, ok_buildSlice ho hd hj hsz.symm hz hzs hzo hb.1.1.1.1 (Nat.eq_of_beq_eq_true hb.1.1.1.2) hle (by omega) (fun p hp => ?_)⟩
          have := List.all_eq_true.1 hb.2 p hp
          rw [Bool.and_eq_true] at this
          exact ⟨Nat.eq_of_beq_eq_true this.1, this.2⟩
        · cases h
      · cases h
    · cases h
  · rename_i t x ho
    split at h
    · rename_i ti ht
      split at h
      · obtain ⟨id, p, hx, h⟩ := asPtr_some h
        obtain ⟨mk, ty, xs, hmk, hS, h⟩ := objAt_some h
        split at h
        · split at h
          · rename_i hb
            rw [Bool.and_eq_true] at hb
            unfold ldRaw at h
            rcases ifB_some h with ⟨h1, h⟩ | ⟨_, h⟩
            · exact ⟨_, _, _, h, ok_load_raw hmk ho (hT _ _ ht) (by simpa using hb.2) hx hS (Nat.le_of_ble_eq_true h1)⟩
            · cases h
          · cases h
        split at h
        · rename_i hk
          obtain ⟨ys, hy, h⟩ := asOwn_some h
          exact ⟨_, _, _, h, ok_take hmk ho (hT _ _ ht) hk hx hS hy⟩
        · cases h
        · obtain ⟨y, h, hy⟩ := ok_load_obj hmk ho (hT _ _ ht) hx hS h
          split at h
          · obtain ⟨i, p', hv, h⟩ := asPtr_some h
            subst hv
            exact ⟨_, _, _, h, hy⟩
          · obtain ⟨i, hv, h⟩ := asMap_some h
            subst hv
            exact ⟨_, _, _, h, hy⟩
          · cases h
          · exact ⟨_, _, _, h, hy⟩
      split at h
      · rename_i d p ha
        split at h
        · rename_i hb
          simp only [Bool.and_eq_true, Bool.or_eq_true] at hb
          refine ⟨_, _, _, h, ok_load_own ho (hT _ _ ht) ha (Nat.le_of_ble_eq_true hb.1.1) (Nat.le_of_ble_eq_true hb.1.2) (fun hk => ?_)⟩
          rcases hb.2 with h1 | h1
          · rw [hk] at h1; cases h1
          · exact Nat.eq_of_beq_eq_true h1
        · cases h
      · split at h
        · rename_i v n p hx
          obtain ⟨y, h, hy⟩ := ok_load_cptr ho (hT _ _ ht) hx h
          exact ⟨_, _, _, h, hy⟩
        · cases h
    · cases h
  · rename_i t x y ho
    split at h
    · unfold storeD at h
      split at h
      · rename_i ti d ht
        split at h
        · rename_i xs hA hE
          split at h
          · rename_i hb
            simp only [Bool.and_eq_true] at hb
            have ha : q.addr (.tmp d) = some (d, 0) := by simp only [Q.addr, hA, hE]
            have hbx : boxAt q.E d = xs := by simp only [boxAt, hE]
            rw [← hbx] at h hb
            exact ⟨_, _, _, h, ok_store ho (hT _ _ ht) ha (Nat.le_of_ble_eq_true hb.1.1.1) (Nat.le_of_ble_eq_true hb.1.1.2) (Nat.eq_of_beq_eq_true hb.1.2) hb.2⟩
          · cases h
        · cases h
      · cases h
    split at h
    · rename_i ti ht
      split at h
      · obtain ⟨id, p, hx, h⟩ := asPtr_some h
        obtain ⟨mk, ty, xs, hmk, hS, h⟩ := objAt_some h
        split at h
        · rename_i z ys hy
          split at h
          · rename_i hl
            obtain ⟨hle, h⟩ := stO_some h
            exact ⟨_, _, _, h, ok_store_own hmk ho (hT _ _ ht) (Nat.eq_of_beq_eq_true hl) hx hS hy hle⟩
          · cases h
        · cases h
        · split at h
          · rename_i hb
            rw [Bool.and_eq_true] at hb
            obtain ⟨hle, h⟩ := stO_some h
            exact ⟨_, _, _, h, ok_store_obj hmk ho (hT _ _ ht) hx hS (Nat.eq_of_beq_eq_true hb.1) hb.2 hle⟩
          · cases h
      split at h
      · rename_i d p ha
        split at h
        · rename_i hb
          simp only [Bool.and_eq_true] at hb
          exact ⟨_, _, _, h, ok_store ho (hT _ _ ht) ha (Nat.le_of_ble_eq_true hb.1.1.1) (Nat.le_of_ble_eq_true hb.1.1.2) (Nat.eq_of_beq_eq_true hb.1.2) hb.2⟩
        · cases h
      · cases h
    · cases h
  · rename_i op t x y yt ho
    split at h
    · rename_i ti ht
      obtain ⟨v, h, hv⟩ := ok_binop ho (hT _ _ ht) h
      exact ⟨_, _, _, h, hv⟩
    · cases h
  · rename_i op t x ho
    split at h
    · obtain ⟨b, hb, h⟩ := asBool_some h
      exact ⟨_, _, _, h, ok_not ho hb⟩
    · cases h
  · rename_i s t x ho
    split at h
    · rename_i si ti hs ht
      obtain ⟨ds, hds, hks⟩ := hund hs
      obtain ⟨dt, hdt, hkt⟩ := hund ht
      split at h
      · rename_i k1 k2 e1 e2
        rw [e1] at hks; rw [e2] at hkt
        obtain rfl := kdOf_int hks; obtain rfl := kdOf_int hkt
        obtain ⟨n, hn, h⟩ := asInt_some h
        exact ⟨_, _, _, h, ok_convInt ho hds hdt hn⟩
      · rename_i e1 e2
        rw [e1] at hks; rw [e2] at hkt
        obtain rfl := kdOf_str hks; obtain rfl := kdOf_str hkt
        obtain ⟨n, hn, h⟩ := asStr_some h
        exact ⟨_, _, _, h, ok_convStr ho hds hdt hn⟩
      · rename_i e1 e2
        rw [e2] at hkt
        obtain rfl := kdOf_str hkt
        obtain ⟨e, j, hd, hj, hsz, _, hel, _⟩ := tiOf_slice (hT _ _ hs) e1
        split at h
        · rename_i he
          obtain ⟨ei, hei, hek⟩ := Option.map_eq_some_iff.1 he
          obtain ⟨de, hde, hke⟩ := hund hei
          rw [hek] at hke
          obtain rfl := kdOf_int hke
          rw [hel] at hde
          obtain ⟨xs, h, hx⟩ := asSl_some h
          unfold strOf at h
          split at h
          · rename_i l hl
            exact ⟨_, _, _, h, ok_convBytes ho hd hde hdt hx hl⟩
          · cases h
        · cases h
      · rename_i e1 e2
        rw [e1] at hks
        obtain rfl := kdOf_str hks
        obtain ⟨e, j, hd, hj, hsz, _, hel, _⟩ := tiOf_slice (hT _ _ ht) e2
        split at h
        · rename_i he
          obtain ⟨ei, hei, hek⟩ := Option.map_eq_some_iff.1 he
          obtain ⟨de, hde, hke⟩ := hund hei
          rw [hek] at hke
          obtain rfl := kdOf_int hke
          rw [hel] at hde
          obtain ⟨b, hb, h⟩ := asStr_some h
          rcases ifB_some h with ⟨h1, h⟩ | ⟨_, h⟩
          · exact ⟨_, _, _, h, ok_toBytes ho hds hd hde hb (of_decide_eq_true h1)⟩
          · cases h
        · cases h
      · cases h
    · cases h
  · rename_i t x lo hi mx ho
    split at h
    · rename_i ti ht
      obtain ⟨d, hd, hk⟩ := hund ht
      split at h
      · rename_i e1
        rw [e1] at hk
        obtain rfl := kdOf_str hk
        obtain ⟨s, hs, h⟩ := asStr_some h
        obtain ⟨l, hl, h⟩ := intOr_some h
        obtain ⟨hh, hhh, h⟩ := intOr_some h
        unfold slStr at h
        rcases ifB_some h with ⟨h1, h⟩ | ⟨_, h⟩
        · have h1 := of_decide_eq_true h1
          exact ⟨_, _, _, h, ok_slStr ho hd hs hl hhh h1.1 h1.2.1 h1.2.2⟩
        · cases h
      · rename_i e1
        obtain ⟨e, j, hd, hj, hsz, _⟩ := tiOf_slice (hT _ _ ht) e1
        split at h
        rotate_left
        · split at h
          · rename_i hi
            obtain ⟨k, m, hm, h⟩ := asI_some h
            unfold slO at h
            split at h
            · rename_i hx
              rcases ifB_some h with ⟨h1, h4⟩ | ⟨_, h⟩
              · rw [Bool.and_eq_true] at h1
                have h2 := of_decide_eq_true h1.2
                have h3 := Nat.eq_of_beq_eq_true h1.1
                subst h3
                exact ⟨_, _, _, h4, ok_slO ho hd hj hx hm h2.1 h2.2⟩
              · cases h
            · rename_i hx
              rcases ifB_some h with ⟨h1, h⟩ | ⟨_, h⟩
              · have h1 := of_decide_eq_true h1
                subst h1
                exact ⟨_, _, _, h, ok_slNil ho hd hj hx hm⟩
              · cases h
            · cases h
          · cases h
        obtain ⟨xs, h, hx⟩ := asSl_some h
        obtain ⟨l, hl, h⟩ := intOr_some h
        obtain ⟨hh, hhh, h⟩ := intOr_some h
        unfold slL at h
        rcases ifB_some h with ⟨h1, h⟩ | ⟨_, h⟩
        · have h1 := of_decide_eq_true h1
          exact ⟨_, _, _, h, ok_slSl ho hd hj hsz.symm hx hl hhh h1.1 h1.2.1 h1.2.2⟩
        · cases h
      · cases h
    · cases h
  · rename_i t x i ho
    split at h
    · rename_i ti ht
      split at h
      · rename_i fo n ft hf
        split at h
        · rename_i d p ha; exact ⟨_, _, _, h, ok_fieldAddr_own ho (hT _ _ ht) hf ha⟩
        · split at h
          · rename_i v n p hx
            split at h
            · rename_i hb; exact ⟨_, _, _, h, ok_fieldAddr_cptr ho (hT _ _ ht) hf hx (Nat.le_of_ble_eq_true hb)⟩
            · cases h
          · rename_i id p hx
            exact ⟨_, _, _, h, ok_fieldAddr_ptr ho (hT _ _ ht) hf hx⟩
          · cases h
      · cases h
    · cases h
  · rename_i t x i ho
    split at h
    · rename_i ti ht
      split at h
      · rename_i fo n ft hf
        split at h
        · rename_i fti xs hft hx
          split at h
          · rename_i hb
            simp only [Bool.and_eq_true, Bool.or_eq_true] at hb
            refine ⟨_, _, _, h, ok_field ho (hT _ _ ht) hf (hT _ _ hft) hx (Nat.le_of_ble_eq_true hb.1.1) (Nat.le_of_ble_eq_true hb.1.2) (fun hk => ?_)⟩
            rcases hb.2 with h1 | h1
            · rw [hk] at h1; cases h1
            · exact Nat.eq_of_beq_eq_true h1
          · cases h
        · cases h
      · cases h
    · cases h
  · rename_i t x i ho
    split at h
    · rename_i ti ht
      split at h
      · rename_i e1
        obtain ⟨e, j, hd, hj, hsz, _⟩ := tiOf_slice (hT _ _ ht) e1
        rcases oslOr_some h with ⟨id, p, z, n, hx, h⟩ | ⟨_, h⟩
        · rcases ifB_some h with ⟨h1, h⟩ | ⟨_, h⟩
          · obtain ⟨ki, m, hm, h⟩ := asI_some h
            obtain ⟨h2, h3, h⟩ := idxN_some h
            exact ⟨_, _, _, h, ok_indexAddr_osl ho hd hj (hsz.symm.trans (Nat.eq_of_beq_eq_true h1).symm) hx hm h2 h3⟩
          · cases h
        · split at h
          rotate_left
          · cases h
          obtain ⟨xs, h, hx⟩ := asSl_some h
          obtain ⟨ki, n, hn, h⟩ := asI_some h
          unfold idxL at h
          rcases ifB_some h with ⟨h1, h⟩ | ⟨_, h⟩
          · have h1 := of_decide_eq_true h1
            exact ⟨_, _, _, h, ok_indexAddr ho hd hj hsz.symm hx hn h1.1 h1.2⟩
          · cases h
      · cases h
    · cases h
  · rename_i t x i ho
    split at h
    · rename_i ti ht
      obtain ⟨d, hd, hk⟩ := hund ht
      split at h
      · rename_i e1
        rw [e1] at hk
        obtain rfl := kdOf_str hk
        obtain ⟨s, hs, h⟩ := asStr_some h
        obtain ⟨ki, n, hn, h⟩ := asI_some h
        unfold idxStr at h
        rcases ifB_some h with ⟨h1, h⟩ | ⟨_, h⟩
        · have h1 := of_decide_eq_true h1
          exact ⟨_, _, _, h, ok_idxStr ho hd hs hn h1.1 h1.2⟩
        · cases h
      · cases h
    · cases h
  · rename_i x i ho
    split at h
    · rename_i t vs hx
      split at h
      · rename_i hb
        split at h
        · exact ⟨_, _, _, h, ok_extract ho hx (Nat.le_of_ble_eq_true hb)⟩
        · exact ⟨_, _, _, h, ok_extract_dup ho hx (Nat.le_of_ble_eq_true hb)⟩
      · cases h
    · cases h
  · rename_i cl ho
    obtain ⟨callee, as, ts⟩ := cl
    simp only at h
    split at h
    · split at h
      rotate_left
      · unfold callM at h
        split at h
        · rename_i t x ht hx
          have hts : ts = #[t] := Array.ext' (by simpa using ht)
          have has : as = #[x] := Array.ext' (by simpa using hx)
          subst hts; subst has
          split at h
          · rename_i ti hti
            split at h
            · rename_i kt e1 hkt
              obtain ⟨id, hm, h⟩ := asMap_some h
              obtain ⟨kvs, hS, h⟩ := mpAt_some h
              exact ⟨_, _, _, h, ok_lenMap ho rfl (tiOf_map (hT _ _ hti) e1) hm hS⟩
            · rename_i e1
              obtain ⟨e, j, hd, _⟩ := tiOf_slice (hT _ _ hti) e1
              unfold lenO at h
              split at h
              · rename_i hx; exact ⟨_, _, _, h, ok_lenOsl ho rfl hd hx⟩
              · rename_i hx; exact ⟨_, _, _, h, ok_lenNil ho rfl hd hx⟩
              · cases h
            · cases h
          · cases h
        · rename_i t t' x y ht hx
          have hts : ts = #[t, t'] := Array.ext' (by simpa using ht)
          have has : as = #[x, y] := Array.ext' (by simpa using hx)
          subst hts; subst has
          split at h
          · rename_i ti ti' hti hti'
            split at h
            · rename_i e1
              obtain ⟨e, i, hd, hi, hsz, hby, hel, z, hz, hzs, hzo⟩ := tiOf_slice (hT _ _ hti) e1
              subst hel
              obtain ⟨ys, h, hy⟩ := srcL_some hT hti' ti.esz h
              obtain ⟨id, n, xs, h, hz0, hb1, hb2, hx⟩ := appO_some h
              exact ⟨_, _, _, h, ok_appO ho hd hi hsz.symm hz hzs hzo hz0 hx hy (by rw [← hby]; exact hb1) hb2⟩
            · cases h
          · cases h
        · cases h
      unfold callB at h
      split at h
      · rename_i t x ht hx
        have hts : ts = #[t] := Array.ext' (by simpa using ht)
        have has : as = #[x] := Array.ext' (by simpa using hx)
        subst hts; subst has
        split at h
        · rename_i ti hti
          obtain ⟨d, hd, hk⟩ := hund hti
          split at h
          · rename_i e1
            rw [e1] at hk
            obtain rfl := kdOf_str hk
            obtain ⟨s, hs, h⟩ := asStr_some h
            exact ⟨_, _, _, h, ok_lenStr ho rfl hd hs⟩
          · rename_i e1
            obtain ⟨e, j, hd, _⟩ := tiOf_slice (hT _ _ hti) e1
            rcases oslOr_some h with ⟨id, p, z, n, hx, h⟩ | ⟨_, h⟩
            · exact ⟨_, _, _, h, ok_lenOsl ho rfl hd hx⟩
            · obtain ⟨xs, h, hx⟩ := asSl_some h
              exact ⟨_, _, _, h, ok_lenSl ho rfl hd (fun r => by
                obtain ⟨A, cap, hv, _⟩ := rep_sl (hx r)
                exact ⟨A, cap, hv⟩)⟩
          · cases h
        · cases h
      · rename_i t t' x y ht hx
        have hts : ts = #[t, t'] := Array.ext' (by simpa using ht)
        have has : as = #[x, y] := Array.ext' (by simpa using hx)
        subst hts; subst has
        split at h
        · rename_i ti ti' hti hti'
          split at h
          · rename_i e1
            obtain ⟨e, i, hd, hi, hsz, hby, hel, z, hz, hzs, hzo⟩ := tiOf_slice (hT _ _ hti) e1
            subst hel
            have src := fun {K : List LV → Option R} {r : R} => srcL_some (P := P) (q := q) (y := y) hT (K := K) (r := r) hti' ti.esz
            split at h
            · rename_i zz ys hx
              rcases ifB_some h with ⟨h1, h⟩ | ⟨_, h⟩
              · rw [Bool.and_eq_true] at h1
                have h0 := Nat.eq_of_beq_eq_true h1.1
                have h1 := Nat.eq_of_beq_eq_true h1.2
                obtain ⟨xs, h, hy⟩ := src h
                obtain ⟨h2, h3, h⟩ := app_some h
                exact ⟨_, _, _, h, ok_append ho hd hi hsz.symm hz hzs hzo (.inl (by rw [hx, h0, h1])) hy (by rw [← hby]; exact h2) h3⟩
              · cases h
            · rename_i hx
              obtain ⟨xs, h, hy⟩ := src h
              obtain ⟨h2, h3, h⟩ := app_some h
              exact ⟨_, _, _, h, ok_append ho hd hi hsz.symm hz hzs hzo (.inr ⟨hx, rfl⟩) hy (by rw [← hby]; exact h2) h3⟩
            · cases h
          · cases h
        · cases h
      · rename_i x y hx
        have has : as = #[x, y] := Array.ext' (by simpa using hx)
        subst has
        split at h
        · rename_i k a k' b h1 h2
          exact ⟨_, _, _, h, ok_min ho h1 h2⟩
        · cases h
      · cases h
    · obtain ⟨f, cs, hx, h⟩ := asFn_some h
      obtain ⟨hen, v, S', hc, h⟩ := hC f _ _ _ _ h
      exact ⟨_, _, _, h, ok_call ho hx hen hc⟩
    · cases h
  · cases h
end
end Go.Lm
