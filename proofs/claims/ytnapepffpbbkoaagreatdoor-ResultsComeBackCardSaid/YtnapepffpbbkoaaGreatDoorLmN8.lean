/- Reading a result: the reference's function. -/
import Derived.Test.YtnapepffpbbkoaaGreatDoorLmN7
set_option maxRecDepth 100000
namespace Go.Lm
abbrev ResT := Int × ByteArray × List LV × List LV × Int × Unit
abbrev ZT : ResT := (0, bs [], [], [], 0, ())
abbrev LoopT (S : List LV) (s : ByteArray) : ByteArray × ResT × ResT × (Nat × Nat) × (Nat × Nat) × Unit := (s, ZT, ZT, (S.length, 0), (S.length + 1, 0), ())
abbrev EndT (S : List LV) : ResT × ResT × (Nat × Nat) × (Nat × Nat) × Unit := (ZT, ZT, (S.length, 0), (S.length + 1, 0), ())
section
variable {R : Type}
theorem ref_q0 (k : Nat) (S : List LV) (s : ByteArray) (hs : s.size ≤ 4000000) (r : Res) (hr : r.looks.length ≤ 4000000) (p p1 : Nat) (hq : ∀ ws p', lineS s p = some (ws, p') → p1 = p') :
    match lookRd s p with
    | .error e => ∀ Jn, G.smithyardref5_ReadResult.q0 (R := R) k Jn (s, ZT, ZT, (S.length, 0), (S.length + 1, 0), (p : Int), (lineW s p).map LV.str, false, ()) (st S (⟨s, p1, -1⟩ : QR).o r.o) = Jn (LoopT S s) (st S (⟨s, p1, (e : Int)⟩ : QR).o r.o)
    | .ok (l, q) => ∀ Jn, G.smithyardref5_ReadResult.q0 (R := R) k Jn (s, ZT, ZT, (S.length, 0), (S.length + 1, 0), (p : Int), (lineW s p).map LV.str, false, ()) (st S (⟨s, p1, -1⟩ : QR).o r.o) = Jn (LoopT S s) (st S (⟨s, q, -1⟩ : QR).o ({ r with looks := r.looks ++ [l] } : Res).o) := by
  have stop1 : ∀ (p : Nat) (b : LV) (n : Int) (K : Unit → List LV → Option R), G.smithyardref5_reader_stop.fn k ((S.length, 0), n, ()) (st S (⟨s, p, -1⟩ : QR).o b) K = K () (st S (⟨s, p, n⟩ : QR).o b) := fun p b n K => ref_stop k S ⟨s, p, -1⟩ b (show (-1 : Int) < 0 by decide) n K
  have bad : ∀ (L : List ByteArray) Jn, G.smithyardref5_ReadResult.q1 (R := R) k Jn (s, ZT, ZT, (S.length, 0), (S.length + 1, 0), (p : Int), L.map LV.str, false, ()) (st S (⟨s, p1, -1⟩ : QR).o r.o) = Jn (LoopT S s) (st S (⟨s, p1, (p : Int)⟩ : QR).o r.o) := fun L Jn => by
    unfold G.smithyardref5_ReadResult.q1
    dsimp only
    rw [ifB_false, stop1]
  unfold lookRd wordsS lineW G.smithyardref5_ReadResult.q0
  dsimp only
  cases hls : lineS s p with
  | none =>
    dsimp only
    intro Jn
    have e : (((([] : List ByteArray).map LV.str).length : Int) == 4) = false := rfl
    rw [ifB_false, e, ifB_false]
    exact bad [] Jn
  | some wq =>
    obtain ⟨ws, q⟩ := wq
    have e1 := hq ws q hls
    subst e1
    dsimp only
    by_cases h4 : ws.length = 4
    · match ws, h4 with
      | [w, pa, d, ru], _ =>
        have e3 : ((([w, pa, d, ru].map LV.str).length : Int) == 4) = true := rfl
        have e4 : decide ([pa, d, ru].length + 1 = 4) = true := rfl
        simp only [e3, ifB_true, ifB_false, idx_str0, idx_str3, asLeaf_str, e4, Bool.true_and]
        cases hw : strEq w (bs [108, 111, 111, 107]) with
        | false =>
          dsimp only
          intro Jn
          rw [ifB_false]
          exact bad _ Jn
        | true =>
          dsimp only
          simp only [ifB_true]
          have hrun : ∀ (A : Bool → Option R), ifB (strEq ru (bs [120])) (A true) (A (strEq ru (bs [45]))) = A (isRunS ru) := fun A => by
            unfold isRunS
            cases strEq ru (bs [120]) <;> cases strEq ru (bs [45]) <;> rfl
          have hrun2 := fun (Jn : ByteArray × ResT × ResT × (Nat × Nat) × (Nat × Nat) × Unit → List LV → Option R) => hrun fun b => G.smithyardref5_ReadResult.q1 (R := R) k Jn (s, ZT, ZT, (S.length, 0), (S.length + 1, 0), (p : Int), [w, pa, d, ru].map LV.str, b, ()) (st S (⟨s, p1, -1⟩ : QR).o r.o)
          cases hr2 : isRunS ru with
          | false =>
            dsimp only
            intro Jn
            refine Eq.trans (hrun2 Jn) ?_
            rw [hr2]
            exact bad _ Jn
          | true =>
            dsimp only
            intro Jn
            refine Eq.trans (hrun2 Jn) ?_
            rw [hr2]
            unfold G.smithyardref5_ReadResult.q1 G.smithyardref5_ReadResult.q2 G.smithyardref5_ReadResult.q3
            dsimp only
            have e8 : ∀ v, (st S (⟨s, p1, -1⟩ : QR).o r.o).set (S.length + 1) v = st S (⟨s, p1, -1⟩ : QR).o v := fun v => setB _ _ _ _
            have e7 : ∀ xs (K : Nat → List LV → Option R), objAt (st S (⟨s, p1, -1⟩ : QR).o (.obj 25 xs)) (S.length + 1) K = K 25 xs := fun xs K => stB _ _ _ _ _
            have e6 : ∀ xs v, (st S (⟨s, p1, -1⟩ : QR).o (.obj 25 xs)).set (S.length + 1) v = st S (⟨s, p1, -1⟩ : QR).o v := fun xs v => setB _ _ _ _
            have ez : ∀ y : Res, LV.obj 25 y.cells = y.o := fun y => rfl
            have e5 : ∀ (l : Look) (K : List LV → Option R), app 40 (r.looks.map Look.lv) [.agg [.str l.p, .str l.d, .bool l.r]] K = K (r.looks.map Look.lv ++ [l.lv]) := fun l K => app_le (by simp; omega) (by simp; omega)
            cases hd : strEq d (bs [45]) with
            | true =>
              have e9 := e5 ⟨pa, bs [], strEq ru (bs [120])⟩
              dsimp only at e9
              simp only [ifB_true, idx_str1, idx_str2, idx_str3, asLeaf_str, hd, Res.at, Res.own3, setS_at, e8, e9, e7, Res.st3, e6, ez]
            | false =>
              have e9 := e5 ⟨pa, d, strEq ru (bs [120])⟩
              dsimp only at e9
              simp only [ifB_true, ifB_false, idx_str1, idx_str2, idx_str3, asLeaf_str, hd, Res.at, Res.own3, setS_at, e8, e9, e7, Res.st3, e6, ez]
    · simp only [len4 ws h4, ifB_false]
      have hno := bad ws
      match ws, h4 with
      | [], _ => exact hno
      | w :: ws, h4 =>
        have : decide (ws.length + 1 = 4) = false := decide_eq_false h4
        simp only [this, Bool.false_and]
        exact hno
abbrev JTy (R : Type) := ResT × ResT × (Nat × Nat) × (Nat × Nat) × Unit → List LV → Option R
theorem ref_stopped (k : Nat) (S : List LV) (s : ByteArray) (p e : Nat) (r : Res) (m : Nat) (hm : 1 ≤ m) (J : JTy R) :
    rounds (G.smithyardref5_ReadResult.b0 k J) m (LoopT S s) (st S (⟨s, p, (e : Int)⟩ : QR).o r.o) = J (EndT S) (st S (⟨s, p, (e : Int)⟩ : QR).o r.o) := by
  obtain ⟨m, rfl⟩ : ∃ m', m = m' + 1 := ⟨m - 1, by omega⟩
  rw [rounds_succ]
  unfold G.smithyardref5_ReadResult.b0
  dsimp only
  rw [QR.at, QR.ld2, ifB_neg (show ¬ ((e : Int) < 0) by omega)]
/-- Is it the line of a file, ahead of all looks? -/
def flagW (L : List ByteArray) (r : Res) : Bool := match L with
  | [w, _, _, _] => strEq w (bs [102, 105, 108, 101]) && decide (r.looks = [])
  | _ => false
/-- A round: a line, and what it says. -/
theorem ref_round {k : Nat} (hk : Many k) (S : List LV) (s : ByteArray) (hs : s.size ≤ 4000000) (r : Res) (p : Nat) (hp : p < s.size) :
    ∃ p1, (∀ ws p', lineS s p = some (ws, p') → p1 = p') ∧ ∀ (m : Nat) (J : JTy R), rounds (G.smithyardref5_ReadResult.b0 k J) (m + 1) (LoopT S s) (st S (⟨s, p, -1⟩ : QR).o r.o) =
      G.smithyardref5_ReadResult.q0 k (fun o S' => rounds (G.smithyardref5_ReadResult.b0 k J) m o S') (s, ZT, ZT, (S.length, 0), (S.length + 1, 0), (p : Int), (lineW s p).map LV.str, flagW (lineW s p) r, ()) (st S (⟨s, p1, -1⟩ : QR).o r.o) := by
  obtain ⟨p1, hp1, hq1, hl1⟩ := ref_line (R := R) hk S ⟨s, p, -1⟩ r.o (Nat.le_of_lt hp) hs
  dsimp only at hp1 hq1 hl1
  refine ⟨p1, hq1, fun m J => ?_⟩
  rw [rounds_succ]
  unfold G.smithyardref5_ReadResult.b0
  dsimp only
  have e9 : decide ((-1 : Int) < 0) = true := rfl
  have e8 : decide ((p : Int) < (s.size : Int)) = true := decide_eq_true (by omega)
  simp only [QR.at, QR.ld2, QR.ld1, e9, e8, ifB_true, hl1, Res.at, Res.ld3]
  by_cases h4 : (lineW s p).length = 4
  · generalize lineW s p = L at h4 ⊢
    match L, h4 with
    | [w, a, b, c], _ =>
      have e3 : ((([w, a, b, c].map LV.str).length : Int) == 4) = true := rfl
      simp only [e3, ifB_true, idx_str0, asLeaf_str]
      have e5 : (((r.looks.map Look.lv).length : Int) == 0) = decide (r.looks = []) := by
        rw [Bool.eq_iff_iff, beq_iff_eq, List.length_map, decide_eq_true_eq]
        constructor
        · intro h; exact List.eq_nil_of_length_eq_zero (by omega)
        · intro h; rw [h]; rfl
      rw [e5]
      unfold flagW
      dsimp only
      cases strEq w (bs [102, 105, 108, 101]) <;> rfl
  · simp only [len4 _ h4, ifB_false]
    generalize lineW s p = L at h4 ⊢
    match L, h4 with
    | [], _ => rfl
    | [_], _ => rfl
    | [_, _], _ => rfl
    | [_, _, _], _ => rfl
    | [_, _, _, _], h => exact absurd rfl h
    | _ :: _ :: _ :: _ :: _ :: _, _ => rfl
theorem ref_end (k : Nat) (S : List LV) (s : ByteArray) (r : Res) (p : Nat) (hp : ¬ p < s.size) (m : Nat) (J : JTy R) :
    rounds (G.smithyardref5_ReadResult.b0 k J) (m + 1) (LoopT S s) (st S (⟨s, p, -1⟩ : QR).o r.o) = J (EndT S) (st S (⟨s, p, -1⟩ : QR).o r.o) := by
  rw [rounds_succ]
  unfold G.smithyardref5_ReadResult.b0
  dsimp only
  have e9 : decide ((-1 : Int) < 0) = true := rfl
  have e8 : decide ((p : Int) < (s.size : Int)) = false := decide_eq_false (by omega)
  simp only [QR.at, QR.ld2, QR.ld1, e9, e8, ifB_true, ifB_false]
theorem ref_looks {k : Nat} (hk : Many k) (S : List LV) (s : ByteArray) (hs : s.size ≤ 4000000) : ∀ (n m p : Nat) (r : Res), p ≤ s.size → r.looks.length ≤ p → (r.looks ≠ [] ∨ prefixS s p = false) → s.size - p < n → n + 1 ≤ m →
    match looksRd s n p r.looks with
    | .error e => ∃ p' y, ∀ J : JTy R, rounds (G.smithyardref5_ReadResult.b0 k J) m (LoopT S s) (st S (⟨s, p, -1⟩ : QR).o r.o) = J (EndT S) (st S (⟨s, p', (e : Int)⟩ : QR).o (Res.o y))
    | .ok ls => ∃ p', ∀ J : JTy R, rounds (G.smithyardref5_ReadResult.b0 k J) m (LoopT S s) (st S (⟨s, p, -1⟩ : QR).o r.o) = J (EndT S) (st S (⟨s, p', -1⟩ : QR).o ({ r with looks := ls } : Res).o)
  | 0, m, p, r, _, _, _, hn, _ => by omega
  | n + 1, m, p, r, hp, hlen, hor, hn, hm => by
    obtain ⟨m, rfl⟩ : ∃ m', m = m' + 1 := ⟨m - 1, by omega⟩
    unfold looksRd
    by_cases hlt : p < s.size
    · rw [decide_eq_true hlt]
      dsimp only
      obtain ⟨p1, hq1, hround⟩ := ref_round (R := R) hk S s hs r p hlt
      have hflag : flagW (lineW s p) r = false := by
        unfold flagW
        rcases hor with h | h
        · rw [decide_eq_false h]
          split <;> simp
        · split
          · rename_i w a b c hL
            unfold lineW at hL
            cases hls : lineS s p with
            | none => rw [hls] at hL; cases hL
            | some wq =>
              obtain ⟨ws, q⟩ := wq
              rw [hls] at hL
              dsimp only at hL
              subst hL
              rw [← prefix_word hls, h]; rfl
          · rfl
      rw [hflag] at hround
      have hq0 := ref_q0 (R := R) k S s hs r (by omega) p p1 hq1
      simp only [hround]
      cases hlk : lookRd s p with
      | error e =>
        rw [hlk] at hq0
        dsimp only at hq0 ⊢
        refine ⟨p1, r, fun J => ?_⟩
        rw [hq0, ref_stopped k S s p1 e r m (by omega)]
      | ok lq =>
        obtain ⟨l, q⟩ := lq
        rw [hlk] at hq0
        obtain ⟨a1, a2, a3, a4⟩ := lookRd_lt hlk
        dsimp only at hq0 ⊢
        simp only [hq0]
        exact ref_looks hk S s hs n m q { r with looks := r.looks ++ [l] } a2 (by simp; omega) (.inl (by simp)) (by omega) (by omega)
    · rw [decide_eq_false hlt]
      dsimp only
      exact ⟨p, fun J => ref_end k S s r p hlt m J⟩
end
end Go.Lm
