/- Reading a result: the reference's first two lines, and files. -/
import Derived.Test.YtnapepffpbbkoaaGreatDoorLmN6
set_option maxRecDepth 100000
namespace Go.Lm
theorem prefix_iff (s : ByteArray) (p : Nat) : prefixS s p = true ↔ ∃ r, (toL s).drop p = [102, 105, 108, 101, 32] ++ r := by
  unfold prefixS
  rw [Bool.and_eq_true, decide_eq_true_eq, strEq_iff]
  have hl : ((toL s).drop p).length = s.size - p := by rw [List.length_drop, toL_len]
  constructor
  · rintro ⟨h1, h2⟩
    have h3 := congrArg toL h2
    rw [toL_extract, restS_L] at h3
    simp only [List.drop_zero, Nat.sub_zero] at h3
    refine ⟨((toL s).drop p).drop 5, ?_⟩
    have h4 := List.take_append_drop 5 ((toL s).drop p)
    rw [h3] at h4
    exact h4.symm
  · rintro ⟨r, hr⟩
    rw [hr] at hl
    simp at hl
    refine ⟨by omega, toL_inj ?_⟩
    rw [toL_extract, restS_L, hr]
    rfl
theorem prefix_word {s : ByteArray} {p q : Nat} {w u : ByteArray} {ws : List ByteArray} (h : lineS s p = some (w :: u :: ws, q)) : prefixS s p = strEq w (bs [102, 105, 108, 101]) := by
  obtain ⟨_, h2, _, h4⟩ := lineS_some h
  have hw := (h2 w (by simp)).2.1
  have e : lineOf (w :: u :: ws) = toL w ++ 32 :: lineOf (u :: ws) := rfl
  rw [e, List.append_assoc, List.cons_append] at h4
  have hc := cutL_at (lineOf (u :: ws) ++ 10 :: (toL s).drop q) hw
  rw [← h4] at hc
  rw [Bool.eq_iff_iff, prefix_iff, strEq_iff]
  constructor
  · rintro ⟨r, hr⟩
    rw [hr] at hc
    have h5 : cutL 32 ([102, 105, 108, 101, 32] ++ r) = some ([102, 105, 108, 101], r) := cutL_at (a := [102, 105, 108, 101]) r (by decide)
    rw [h5] at hc
    simp only [Option.some.injEq, Prod.mk.injEq] at hc
    exact toL_inj hc.1.symm
  · intro hw
    rw [h4, hw]
    exact ⟨_, rfl⟩
theorem numN_of {w : ByteArray} (h : isNumS w 9 = true) : numN w = numV w := by unfold numN; rw [h]
theorem numV_lt {w : ByteArray} (h : isNumS w 9 = true) : numV w < 1000000000 := by
  unfold isNumS at h
  rw [isNumL_iff] at h
  have h1 := valL_lt h.2.2.1
  have h2 : 10 ^ (toL w).length ≤ 10 ^ 9 := Nat.pow_le_pow_right (by decide) h.2.1
  have h3 : valL (toL w) < 1000000000 := Nat.lt_of_lt_of_le h1 h2
  unfold numV
  omega
section
variable {R : Type}
theorem len3 (ws : List ByteArray) (h : ws.length ≠ 3) : (((ws.map LV.str).length : Int) == 3) = false := by rw [List.length_map, beq_eq_false_iff_ne]; omega
theorem len2 (ws : List ByteArray) (h : ws.length ≠ 2) : (((ws.map LV.str).length : Int) == 2) = false := by rw [List.length_map, beq_eq_false_iff_ne]; omega
theorem len4 (ws : List ByteArray) (h : ws.length ≠ 4) : (((ws.map LV.str).length : Int) == 4) = false := by rw [List.length_map, beq_eq_false_iff_ne]; omega
theorem ref_head {k : Nat} (hk : Many k) (S : List LV) (s : ByteArray) (hs : s.size ≤ 4000000) :
    match topRd s with
    | .error e => ∃ p y, ∀ K : Unit → List LV → Option R, G.smithyardref5_reader_head.fn k ((S.length, 0), (S.length + 1, 0), ()) (st S (⟨s, 0, -1⟩ : QR).o Res.zero.o) K = K () (st S (⟨s, p, (e : Int)⟩ : QR).o (Res.o y))
    | .ok ((a, b, t), p) => ∀ K : Unit → List LV → Option R, G.smithyardref5_reader_head.fn k ((S.length, 0), (S.length + 1, 0), ()) (st S (⟨s, 0, -1⟩ : QR).o Res.zero.o) K = K () (st S (⟨s, p, -1⟩ : QR).o (⟨a, t, [], [], b⟩ : Res).o) := by
  obtain ⟨p1, hp1, hq1, hl1⟩ := ref_line (R := R) hk S ⟨s, 0, -1⟩ Res.zero.o (Nat.zero_le _) hs
  dsimp only at hp1 hq1 hl1
  have stop1 : ∀ (p : Nat) (b : LV) (n : Int) (K : Unit → List LV → Option R), G.smithyardref5_reader_stop.fn k ((S.length, 0), n, ()) (st S (⟨s, p, -1⟩ : QR).o b) K = K () (st S (⟨s, p, n⟩ : QR).o b) := fun p b n K => ref_stop k S ⟨s, p, -1⟩ b (show (-1 : Int) < 0 by decide) n K
  unfold topRd wordsS G.smithyardref5_reader_head.fn
  dsimp only
  simp only [QR.at, QR.ld1, hl1]
  unfold lineW
  have no : ∀ (L : List ByteArray), (∃ p y, ∀ K : Unit → List LV → Option R, G.smithyardref5_reader_head.q12 k (fun o13 S_1 => G.smithyardref5_reader_head.q1 k (fun _ S => K () S) (fun _ S => K () S) ((o13.1.1, o13.1.2), (o13.2.1.1, o13.2.1.2), o13.2.2.1, o13.2.2.2.1, o13.2.2.2.2.1, o13.2.2.2.2.2.1, o13.2.2.2.2.2.2.1, ()) S_1) ((S.length, 0), (S.length + 1, 0), 0, L.map LV.str, 0, 0, false, false, false, ()) (st S (⟨s, p1, -1⟩ : QR).o Res.zero.o) = K () (st S (⟨s, p, ((0 : Nat) : Int)⟩ : QR).o (Res.o y))) := fun L => ⟨p1, Res.zero, fun K => by
    unfold G.smithyardref5_reader_head.q12 G.smithyardref5_reader_head.q1 G.smithyardref5_reader_head.q2
    dsimp only
    rw [ifB_false, Bool.not_false, ifB_true, ifB_true, stop1]
    rfl⟩
  cases hls : lineS s 0 with
  | none => exact no []
  | some wq =>
    obtain ⟨ws, q⟩ := wq
    have e1 := hq1 ws q hls
    subst e1
    have hpq := lineS_lt hls
    dsimp only
    by_cases h3 : ws.length = 3
    · match ws, h3 with
      | [w, a, b], _ =>
        have hsz : ∀ x ∈ [w, a, b], x.size ≤ s.size := fun x hx => by
          have hb := join_len 32 ([w, a, b].map toL) (toL x) (List.mem_map.2 ⟨x, hx, rfl⟩)
          obtain ⟨_, _, h5, h6⟩ := lineS_some hls
          have h9 : (joinL 32 ([w, a, b].map toL)).length = (lineOf [w, a, b]).length := rfl
          rw [toL_len] at hb
          omega
        have e3 : ((([w, a, b].map LV.str).length : Int) == 3) = true := rfl
        simp only [e3, ifB_true, idx_str0, asLeaf_str]
        have e4 : decide ([a, b].length + 1 = 3) = true := rfl
        simp only [e4, Bool.true_and]
        cases hw : strEq w (bs [99, 111, 100, 101]) with
        | false => exact no [w, a, b]
        | true =>
          unfold G.smithyardref5_reader_head.q12 G.smithyardref5_reader_head.q0 G.smithyardref5_reader_head.q1 G.smithyardref5_reader_head.q2
          dsimp only
          simp only [ifB_true, idx_str1, idx_str2, asLeaf_str, ref_numbered hk a (Nat.le_trans (hsz a (by simp)) hs), ref_numbered hk b (Nat.le_trans (hsz b (by simp)) hs)]
          cases ha : isNumS a 9 with
          | false =>
            simp only [Bool.not_false, ifB_true, stop1, Bool.false_and]
            exact ⟨_, _, fun K => rfl⟩
          | true =>
            simp only [Bool.not_true, ifB_false, Bool.true_and]
            cases hb : isNumS b 9 with
            | false =>
              simp only [Bool.not_false, ifB_true, stop1]
              exact ⟨_, _, fun K => rfl⟩
            | true =>
              unfold G.smithyardref5_reader_head.q7 G.smithyardref5_reader_head.q8 G.smithyardref5_reader_head.q9 G.smithyardref5_reader_head.q10 G.smithyardref5_reader_head.q11
              dsimp only
              obtain ⟨p2, hp2, hq2, hl2⟩ := ref_line (R := R) hk S ⟨s, p1, -1⟩ (Res.o ⟨numV a, bs [], [], [], numV b⟩) (by dsimp only; omega) hs
              dsimp only at hp2 hq2 hl2
              simp only [Bool.not_true, ifB_false, Res.at, Res.st0, Res.st4, setS_at, Res.set, QR.at, QR.ld1, numN_of ha, numN_of hb]
              have ez : ({ code := numV a, text := Res.zero.text, files := Res.zero.files, looks := Res.zero.looks, cmd := numV b } : Res) = ⟨numV a, bs [], [], [], numV b⟩ := rfl
              simp only [ez, hl2]
              have no2 : ∀ L : List ByteArray, ∃ p y, ∀ K : Unit → List LV → Option R, G.smithyardref5_reader_head.q3 k (fun o28 S => G.smithyardref5_reader_head.q4 k (fun _ S => K () S) (fun _ S => K () S) ((o28.1.1, o28.1.2), (o28.2.1.1, o28.2.1.2), o28.2.2.1, o28.2.2.2.1, o28.2.2.2.2.1, ()) S) ((S.length, 0), (S.length + 1, 0), (p1 : Int), L.map LV.str, 0, false, false, ()) (st S (⟨s, p2, -1⟩ : QR).o (⟨numV a, bs [], [], [], numV b⟩ : Res).o) = K () (st S (⟨s, p, (p1 : Int)⟩ : QR).o (Res.o y)) := fun L => ⟨p2, _, fun K => by
                unfold G.smithyardref5_reader_head.q3 G.smithyardref5_reader_head.q4 G.smithyardref5_reader_head.q5
                dsimp only
                rw [ifB_false, Bool.not_false, ifB_true, stop1]⟩
              unfold lineW
              cases hls2 : lineS s p1 with
              | none => exact no2 []
              | some wq2 =>
                obtain ⟨ws2, q2⟩ := wq2
                have e1 := hq2 ws2 q2 hls2
                subst e1
                have hpq2 := lineS_lt hls2
                dsimp only
                by_cases h2 : ws2.length = 2
                · match ws2, h2 with
                  | [w2, c], _ =>
                    have hsc : c.size ≤ s.size := by
                      have hb := join_len 32 ([w2, c].map toL) (toL c) (List.mem_map.2 ⟨c, by simp, rfl⟩)
                      obtain ⟨_, _, h5, h6⟩ := lineS_some hls2
                      have h9 : (joinL 32 ([w2, c].map toL)).length = (lineOf [w2, c]).length := rfl
                      rw [toL_len] at hb
                      omega
                    have e5 : ((([w2, c].map LV.str).length : Int) == 2) = true := rfl
                    have e6 : decide ([c].length + 1 = 2) = true := rfl
                    simp only [e5, ifB_true, idx_str0, asLeaf_str, e6, Bool.true_and]
                    cases hw2 : strEq w2 (bs [116, 101, 120, 116]) with
                    | false => exact no2 [w2, c]
                    | true =>
                      unfold G.smithyardref5_reader_head.q3 G.smithyardref5_reader_head.q4 G.smithyardref5_reader_head.q5 G.smithyardref5_reader_head.q6
                      dsimp only
                      simp only [ifB_true, idx_str1, asLeaf_str, ref_numbered hk c (Nat.le_trans hsc hs)]
                      cases hc : isNumS c 9 with
                      | false =>
                        simp only [Bool.not_false, ifB_true, stop1]
                        exact ⟨_, _, fun K => rfl⟩
                      | true =>
                        have hby := fun K => ref_bytes (R := R) k S ⟨s, p2, -1⟩ (Res.o ⟨numV a, bs [], [], [], numV b⟩) (show (-1 : Int) < 0 by decide) (show p2 ≤ s.size by omega) hs (numV_nonneg c) (numV_lt hc) K
                        dsimp only at hby
                        simp only [Bool.not_true, ifB_false, numN_of hc, hby]
                        cases ht : takeS s p2 (numV c) with
                        | error e =>
                          dsimp only
                          refine ⟨p2, ⟨numV a, bs [], [], [], numV b⟩, fun K => ?_⟩
                          rw [Res.at, Res.st1, setS_at, Res.set]
                        | ok tp =>
                          obtain ⟨t, p⟩ := tp
                          dsimp only
                          intro K
                          rw [Res.at, Res.st1, setS_at, Res.set]
                · simp only [len2 ws2 h2, ifB_false]
                  have hno := no2 ws2
                  match ws2, h2 with
                  | [], _ => exact hno
                  | w :: ws, h2 =>
                    have : decide (ws.length + 1 = 2) = false := decide_eq_false h2
                    simp only [this, Bool.false_and]
                    exact hno
    · simp only [len3 ws h3, ifB_false]
      have hno := no ws
      match ws, h3 with
      | [], _ => exact hno
      | w :: ws, h3 =>
        have : decide (ws.length + 1 = 3) = false := decide_eq_false h3
        simp only [this, Bool.false_and]
        exact hno
theorem Res.own2 (x : Res) (K : List LV → Option R) : asOwn 69 3 (x.cells.getD (0 + 2) .any) K = K (x.files.map File.lv) := asOwn_ow 69 3 _ K
theorem Res.own3 (x : Res) (K : List LV → Option R) : asOwn 52 3 (x.cells.getD (0 + 3) .any) K = K (x.looks.map Look.lv) := asOwn_ow 52 3 _ K
theorem Res.ld3 (x : Res) (K : List LV → Option R) : ldSl 3 x.cells (0 + 3) K = K (x.looks.map Look.lv) := asSl_ow 52 3 _ K
theorem Res.st2 (x : Res) (f : File) (v : LV) (K : List LV → Option R) : stO (x.cells.set (0 + 2) v) (0 + 2) [.own 69 3 (x.files.map File.lv ++ [f.lv])] K = K { x with files := x.files ++ [f] }.cells := by
  have e : (LV.own 69 3 (x.files.map File.lv ++ [f.lv])) = ow 69 3 ((x.files ++ [f]).map File.lv) := by rw [ow_snoc, List.map_append]; rfl
  rw [e]
  rfl
theorem Res.st3 (x : Res) (f : Look) (v : LV) (K : List LV → Option R) : stO (x.cells.set (0 + 3) v) (0 + 3) [.own 52 3 (x.looks.map Look.lv ++ [f.lv])] K = K { x with looks := x.looks ++ [f] }.cells := by
  have e : (LV.own 52 3 (x.looks.map Look.lv ++ [f.lv])) = ow 52 3 ((x.looks ++ [f]).map Look.lv) := by rw [ow_snoc, List.map_append]; rfl
  rw [e]
  rfl
/-- The line of a file was taken: the rest of it. -/
theorem ref_file {k : Nat} (hk : Many k) (S : List LV) (s : ByteArray) (hs : s.size ≤ 4000000) (r : Res) (hf : r.files.length ≤ 4000000) (p0 p : Nat) (w pa ru n : ByteArray) (hl : lineS s p0 = some ([w, pa, ru, n], p)) (hw : strEq w (bs [102, 105, 108, 101]) = true) :
    match fileRd s p0 with
    | .error e => ∃ p' y, ∀ K : Unit → List LV → Option R, G.smithyardref5_reader_file.fn k ((S.length, 0), [w, pa, ru, n].map LV.str, (p0 : Int), (S.length + 1, 0), ()) (st S (⟨s, p, -1⟩ : QR).o r.o) K = K () (st S (⟨s, p', (e : Int)⟩ : QR).o (Res.o y))
    | .ok (f, q) => ∀ K : Unit → List LV → Option R, G.smithyardref5_reader_file.fn k ((S.length, 0), [w, pa, ru, n].map LV.str, (p0 : Int), (S.length + 1, 0), ()) (st S (⟨s, p, -1⟩ : QR).o r.o) K = K () (st S (⟨s, q, -1⟩ : QR).o ({ r with files := r.files ++ [f] } : Res).o) := by
  have hwords : wordsS s p0 (bs [102, 105, 108, 101]) 4 = some ([pa, ru, n], p) := by
    rw [(strEq_iff _ _).1 hw] at hl
    exact wordsS_of hl
  obtain ⟨l1, l2, l3, l4⟩ := words_lt hwords
  have stop1 : ∀ (p : Nat) (b : LV) (n : Int) (K : Unit → List LV → Option R), G.smithyardref5_reader_stop.fn k ((S.length, 0), n, ()) (st S (⟨s, p, -1⟩ : QR).o b) K = K () (st S (⟨s, p, n⟩ : QR).o b) := fun p b n K => ref_stop k S ⟨s, p, -1⟩ b (show (-1 : Int) < 0 by decide) n K
  unfold fileRd G.smithyardref5_reader_file.fn
  rw [hwords]
  dsimp only
  simp only [idx_str3, idx_str2, asLeaf_str, ref_numbered hk n (Nat.le_trans (l4 n (by simp)) hs)]
  unfold G.smithyardref5_reader_file.q0
  dsimp only
  cases hn : isNumS n 9 with
  | false =>
    simp only [Bool.not_false, ifB_true, stop1, Bool.and_false]
    exact ⟨_, _, fun K => rfl⟩
  | true =>
    simp only [Bool.not_true, ifB_false, Bool.and_true]
    have hrun : ∀ (X Y : Option R), ifB (!(strEq ru (bs [120]))) (ifB (!(strEq ru (bs [45]))) X Y) Y = ifB (isRunS ru) Y X := fun X Y => by
      unfold isRunS
      cases strEq ru (bs [120]) <;> cases strEq ru (bs [45]) <;> rfl
    simp only [stop1, hrun]
    cases hr : isRunS ru with
    | false =>
      simp only [ifB_false]
      exact ⟨_, _, fun K => rfl⟩
    | true =>
      simp only [ifB_true]
      unfold G.smithyardref5_reader_file.q6 G.smithyardref5_reader_file.q1
      dsimp only
      have hby := fun K => ref_bytes (R := R) k S ⟨s, p, -1⟩ r.o (show (-1 : Int) < 0 by decide) (show p ≤ s.size by omega) hs (numV_nonneg n) (numV_lt hn) K
      dsimp only at hby
      simp only [idx_str1, idx_str2, asLeaf_str, numN_of hn, hby]
      cases ht : takeS s p (numV n) with
      | error e =>
        dsimp only
        refine ⟨p + 1, { r with files := r.files ++ [⟨pa, strEq ru (bs [120]), bs [], false, fun h => by cases h⟩] }, fun K => ?_⟩
        have e0 : ∀ K : List LV → Option R, app 1 [] (bytesL (bs [])) K = K (bytesL (bs [])) := fun K => app_le (by decide) (by decide)
        have e5 : ∀ K : List LV → Option R, app 48 (r.files.map File.lv) [.agg [.str pa, .bool (strEq ru (bs [120])), .sl 1 (bytesL (bs []))]] K = K (r.files.map File.lv ++ [(File.lv ⟨pa, strEq ru (bs [120]), bs [], false, fun h => by cases h⟩)]) := fun K => app_le (by simp; omega) (by simp; omega)
        rw [e0]
        unfold G.smithyardref5_reader_file.q2 G.smithyardref5_reader_file.q3 G.smithyardref5_reader_file.q4 G.smithyardref5_reader_file.q5
        dsimp only
        have e9 : decide (((e : Nat) : Int) < 0) = false := decide_eq_false (by omega)
        have e8 : ∀ v, (st S (⟨s, p, (e : Int)⟩ : QR).o r.o).set (S.length + 1) v = st S (⟨s, p, (e : Int)⟩ : QR).o v := fun v => setB _ _ _ _
        have e7 : ∀ xs (K : Nat → List LV → Option R), objAt (st S (⟨s, p, (e : Int)⟩ : QR).o (.obj 25 xs)) (S.length + 1) K = K 25 xs := fun xs K => stB _ _ _ _ _
        have e6 : ∀ xs v, (st S (⟨s, p, (e : Int)⟩ : QR).o (.obj 25 xs)).set (S.length + 1) v = st S (⟨s, p, (e : Int)⟩ : QR).o v := fun xs v => setB _ _ _ _
        simp only [Res.at, Res.own2, setS_at, e8, e5, e7, Res.st2, e6]
        have ez : ∀ y : Res, LV.obj 25 y.cells = y.o := fun y => rfl
        simp only [ez, QR.at, QR.ld2, e9, ifB_false, QR.ld1, wrap_succ (show p < 9223372036854775807 by omega), QR.st1, QR.set]
      | ok tp =>
        obtain ⟨t, q⟩ := tp
        obtain ⟨t1, t2, t3⟩ := takeS_le (numV_nonneg n) ht
        have t2 := t2 (by omega)
        dsimp only
        have e0 : ∀ K : List LV → Option R, app 1 [] (bytesL t) K = K (bytesL t) := fun K => app_le (by rw [bytesL_len]; simp; omega) (by rw [bytesL_len]; simp; omega)
        have e5 : ∀ K : List LV → Option R, app 48 (r.files.map File.lv) [.agg [.str pa, .bool (strEq ru (bs [120])), .sl 1 (bytesL t)]] K = K (r.files.map File.lv ++ [(File.lv ⟨pa, strEq ru (bs [120]), t, false, fun h => by cases h⟩)]) := fun K => app_le (by simp; omega) (by simp; omega)
        simp only [e0]
        unfold G.smithyardref5_reader_file.q2 G.smithyardref5_reader_file.q3 G.smithyardref5_reader_file.q4 G.smithyardref5_reader_file.q5
        dsimp only
        have e9 : decide ((-1 : Int) < 0) = true := rfl
        have e8 : ∀ v, (st S (⟨s, q, -1⟩ : QR).o r.o).set (S.length + 1) v = st S (⟨s, q, -1⟩ : QR).o v := fun v => setB _ _ _ _
        have e7 : ∀ xs (K : Nat → List LV → Option R), objAt (st S (⟨s, q, -1⟩ : QR).o (.obj 25 xs)) (S.length + 1) K = K 25 xs := fun xs K => stB _ _ _ _ _
        have e6 : ∀ xs v, (st S (⟨s, q, -1⟩ : QR).o (.obj 25 xs)).set (S.length + 1) v = st S (⟨s, q, -1⟩ : QR).o v := fun xs v => setB _ _ _ _
        have ez : ∀ y : Res, LV.obj 25 y.cells = y.o := fun y => rfl
        have e3 : ∀ n : Int, (n != 10) = !(n == 10) := fun _ => rfl
        simp only [Res.at, Res.own2, setS_at, e8, e5, e7, Res.st2, e6, ez, QR.at, QR.ld2, e9, ifB_true, QR.ld1, QR.ld0]
        by_cases hps : q = s.size
        · have e1 : (((q : Nat) : Int) == (s.size : Int)) = true := by rw [beq_iff_eq]; omega
          have e2 : (bt s (q : Int) == 10) = false := by
            unfold bt
            rw [Int.toNat_natCast, dif_neg (by omega)]; rfl
          simp only [e1, e2, ifB_true, stop1, QR.at, QR.ld1, wrap_succ (show q < 9223372036854775807 by omega), QR.st1, QR.set]
          exact ⟨_, _, fun K => rfl⟩
        · have e1 : (((q : Nat) : Int) == (s.size : Int)) = false := by rw [beq_eq_false_iff_ne]; omega
          simp only [e1, ifB_false, idxStr_nat (show q < s.size by omega), e3]
          cases hb : bt s (q : Int) == 10 with
          | false =>
            simp only [Bool.not_false, ifB_true, stop1, QR.at, QR.ld1, wrap_succ (show q < 9223372036854775807 by omega), QR.st1, QR.set]
            exact ⟨_, _, fun K => rfl⟩
          | true =>
            simp only [Bool.not_true, ifB_false, QR.at, QR.ld1, wrap_succ (show q < 9223372036854775807 by omega), QR.st1, QR.set]
            intro K
            trivial
end
end Go.Lm
