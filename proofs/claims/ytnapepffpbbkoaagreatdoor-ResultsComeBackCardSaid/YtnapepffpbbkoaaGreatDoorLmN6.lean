/- Reading a result: the reference's small functions. -/
import Derived.Test.YtnapepffpbbkoaaGreatDoorLmN5
set_option maxRecDepth 100000
namespace Go.Lm
section
variable {R : Type}
/-- A store with two objects at its end. -/
def st (S : List LV) (a b : LV) : List LV := S ++ [a, b]
theorem st_new (S : List LV) (a b : LV) : (S ++ [a]) ++ [b] = st S a b := by unfold st; simp
theorem stA (S : List LV) (t : Nat) (xs : List LV) (b : LV) (K : Nat → List LV → Option R) : objAt (st S (.obj t xs) b) S.length K = K t xs := at_of (by unfold st; simp [List.getD_eq_getElem?_getD]) K
theorem stB (S : List LV) (t : Nat) (xs : List LV) (a : LV) (K : Nat → List LV → Option R) : objAt (st S a (.obj t xs)) (S.length + 1) K = K t xs := at_of (by unfold st; simp [List.getD_eq_getElem?_getD]) K
theorem setA (S : List LV) (a b v : LV) : (st S a b).set S.length v = st S v b := by unfold st; simp
theorem setB (S : List LV) (a b v : LV) : (st S a b).set (S.length + 1) v = st S a v := by unfold st; simp
structure QR where
  s : ByteArray
  pos : Nat
  bad : Int
def QR.cells (q : QR) : List LV := [.str q.s, .int .i64 (q.pos : Int), .int .i64 q.bad]
def QR.o (q : QR) : LV := .obj 90 q.cells
def Res.cells (r : Res) : List LV := [.int .i64 r.code, .str r.text, ow 69 3 (r.files.map File.lv), ow 52 3 (r.looks.map Look.lv), .int .i64 r.cmd]
def Res.o (r : Res) : LV := .obj 25 r.cells
theorem QR.at (S : List LV) (q : QR) (b : LV) (K : Nat → List LV → Option R) : objAt (st S q.o b) S.length K = K 90 q.cells := stA S 90 q.cells b K
theorem Res.at (S : List LV) (r : Res) (a : LV) (K : Nat → List LV → Option R) : objAt (st S a r.o) (S.length + 1) K = K 25 r.cells := stB S 25 r.cells a K
theorem QR.set (S : List LV) (q q' : QR) (b : LV) : (st S q.o b).set S.length (.obj 90 q'.cells) = st S q'.o b := setA _ _ _ _
theorem Res.set (S : List LV) (r r' : Res) (a : LV) : (st S a r.o).set (S.length + 1) (.obj 25 r'.cells) = st S a r'.o := setB _ _ _ _
theorem QR.ld0 (q : QR) (K : ByteArray → Option R) : ldStr q.cells (0 + 0) K = K q.s := rfl
theorem QR.ld1 (q : QR) (K : Int → Option R) : ldInt .i64 q.cells (0 + 1) K = K (q.pos : Int) := rfl
theorem QR.ld2 (q : QR) (K : Int → Option R) : ldInt .i64 q.cells (0 + 2) K = K q.bad := rfl
theorem QR.st1 (q : QR) (n : Nat) (K : List LV → Option R) : stO q.cells (0 + 1) [.int .i64 (n : Int)] K = K { q with pos := n }.cells := rfl
theorem QR.st2 (q : QR) (n : Int) (K : List LV → Option R) : stO q.cells (0 + 2) [.int .i64 n] K = K { q with bad := n }.cells := rfl
theorem Res.st0 (r : Res) (n : Int) (K : List LV → Option R) : stO r.cells (0 + 0) [.int .i64 n] K = K { r with code := n }.cells := rfl
theorem Res.st4 (r : Res) (n : Int) (K : List LV → Option R) : stO r.cells (0 + 4) [.int .i64 n] K = K { r with cmd := n }.cells := rfl
theorem Res.st1 (r : Res) (n : ByteArray) (K : List LV → Option R) : stO r.cells (0 + 1) [.str n] K = K { r with text := n }.cells := rfl
/-- The words of a line; none: it has no end, or a word is empty. -/
def lineW (s : ByteArray) (p : Nat) : List ByteArray := match lineS s p with
  | some (ws, _) => ws
  | none => []
theorem scan_false (f : ByteArray → Bool) : ∀ (l m : List ByteArray), scan (fun i => match f ((m ++ l).getD i (bs [])) with | true => some false | false => none) true l.length m.length = !(l.any f)
  | [], m => rfl
  | x :: l, m => by
    have e : (m ++ x :: l).getD m.length (bs []) = x := by simp [List.getD_eq_getElem?_getD]
    have ih := scan_false f l (m ++ [x])
    simp only [List.length_append, List.length_cons, List.length_nil, Nat.zero_add, List.append_assoc, List.cons_append, List.nil_append] at ih
    simp only [List.length_cons, scan, List.any_cons]
    by_cases h : f x = true
    · simp [e, h]
    · have h : f x = false := by simpa using h
      simp only [e, h, Bool.false_or]
      exact ih
theorem ref_apart {k : Nat} (hk : Many k) (a : Bs) (ha : a.length ≤ 4000000) (S : List LV) (K : List LV × Bool × Unit → List LV → Option R) :
    G.smithyardref5_apart.fn k (ofL a, ()) S K = match (splitL 32 a).any List.isEmpty with
      | true => K ([], false, ()) S
      | false => K (((splitL 32 a).map ofL).map .str, true, ()) S := by
  have hk' := hk
  unfold Many at hk'
  have hz := ofL_size a
  unfold G.smithyardref5_apart.fn
  dsimp only
  rw [splitW_at k 32 _ (by omega)]
  have hlen := splitW_len (UInt8.ofNat 32) (ofL a)
  have hw : splitW (UInt8.ofNat 32) (ofL a) = (splitL 32 a).map ofL := rfl
  rw [hw] at hlen ⊢
  rw [← any_empty]
  generalize (splitL 32 a).map ofL = l at hlen ⊢
  dsimp only
  have h := rounds_scan0 (b := G.smithyardref5_apart.b0 k (fun (o4 : List LV × Unit) S => K (o4.1, true, ()) S) (fun (o5 : List LV × Bool × Unit) S => K (o5.1, o5.2.1, ()) S)) (fun i => (l.map LV.str, (i : Int), ())) S l.length k (fun i => match strEq (bs []) (l.getD i (bs [])) with | true => some (K ([], false, ()) S) | false => none) (K (l.map .str, true, ()) S) (fun rec i hi => ?_) (fun rec => ?_) (by omega)
  · refine Eq.trans h ?_
    have h2 := scan_false (strEq (bs [])) l []
    simp only [List.length_nil, List.nil_append] at h2
    have h3 := scan_map (fun b => match b with | true => K (l.map .str, true, ()) S | false => K ([], false, ()) S) (step := fun i => match strEq (bs []) (l.getD i (bs [])) with | true => some false | false => none) (fin := true) l.length 0
    rw [h2] at h3
    refine Eq.trans (Eq.trans (scan_congr _ _ (fun j _ _ => ?_) rfl) h3) ?_
    · cases strEq (bs []) (l.getD j (bs [])) <;> rfl
    · cases l.any (strEq (bs [])) <;> rfl
  · unfold G.smithyardref5_apart.b0
    dsimp only
    rw [List.length_map, lt_nat, ifB_pos hi, idxL_nat (by simpa using hi), map_str_get l i hi]
    show ifB (strEq (l.getD i (bs [])) (bs [])) _ _ = _
    have e : strEq (l.getD i (bs [])) (bs []) = strEq (bs []) (l.getD i (bs [])) := by
      rw [Bool.eq_iff_iff, strEq_iff, strEq_iff]; exact ⟨Eq.symm, Eq.symm⟩
    rw [wrap_succ (by omega), e]
    cases strEq (bs []) (l.getD i (bs [])) <;> rfl
  · unfold G.smithyardref5_apart.b0
    dsimp only
    rw [List.length_map, lt_nat, ifB_neg (Nat.lt_irrefl _)]
theorem ref_line {k : Nat} (hk : Many k) (S : List LV) (q : QR) (b : LV) (hp : q.pos ≤ q.s.size) (hs : q.s.size ≤ 4000000) :
    ∃ p, p ≤ q.s.size ∧ (∀ ws p', lineS q.s q.pos = some (ws, p') → p = p') ∧ ∀ K : List LV × Unit → List LV → Option R, G.smithyardref5_reader_line.fn k ((S.length, 0), ()) (st S q.o b) K = K ((lineW q.s q.pos).map .str, ()) (st S ({ q with pos := p } : QR).o b) := by
  have hr := restS_size q.s q.pos
  have c10 : UInt8.ofNat 10 = 10 := rfl
  cases hc : cutL 10 ((toL q.s).drop q.pos) with
  | none =>
    have hl : lineS q.s q.pos = none := by unfold lineS; rw [hc]
    refine ⟨q.pos, hp, fun ws p' h => (by rw [hl] at h; cases h), fun K => ?_⟩
    unfold G.smithyardref5_reader_line.fn lineW
    dsimp only
    simp only [QR.at, QR.ld0, QR.ld1, rest_at hp]
    rw [cutS_at k 10 _ (by omega)]
    unfold cutB
    rw [restS_L, c10, hc, hl]
    rfl
  | some ar =>
    obtain ⟨a, r⟩ := ar
    have hlen := cutL_len hc
    rw [List.length_drop, toL_len] at hlen
    have hl : lineS q.s q.pos = match (splitL 32 a).any List.isEmpty with | true => none | false => some ((splitL 32 a).map ofL, q.pos + a.length + 1) := by unfold lineS; rw [hc]; rfl
    refine ⟨q.pos + a.length + 1, by omega, fun ws p' h => ?_, fun K => ?_⟩
    · rw [hl] at h
      cases he : (splitL 32 a).any List.isEmpty with
      | true => rw [he] at h; cases h
      | false => rw [he] at h; simp only [Option.some.injEq, Prod.mk.injEq] at h; exact h.2
    · unfold G.smithyardref5_reader_line.fn G.smithyardref5_reader_line.q0 lineW
      dsimp only
      simp only [QR.at, QR.ld0, QR.ld1, rest_at hp]
      rw [cutS_at k 10 _ (by omega)]
      unfold cutB
      rw [restS_L, c10, hc, hl]
      dsimp only
      rw [Bool.not_true, ifB_false, ref_apart hk a (by omega)]
      have e4 : IntKind.wrap .i64 ((q.pos : Int) + IntKind.wrap .i64 (((ofL a).size : Int) + 1)) = ((q.pos + a.length + 1 : Nat) : Int) := by
        rw [ofL_size, wrap_id (n := (a.length : Int) + 1) (by omega) (by omega), wrap_id (by omega) (by omega)]
        omega
      cases (splitL 32 a).any List.isEmpty with
      | true =>
        dsimp only
        rw [QR.at, QR.ld1, QR.at, e4, QR.st1, setS_at, QR.set]
        rfl
      | false =>
        dsimp only
        rw [QR.at, QR.ld1, QR.at, e4, QR.st1, setS_at, QR.set]
theorem ref_stop (k : Nat) (S : List LV) (q : QR) (b : LV) (hb : q.bad < 0) (n : Int) (K : Unit → List LV → Option R) : G.smithyardref5_reader_stop.fn k ((S.length, 0), n, ()) (st S q.o b) K = K () (st S ({ q with bad := n } : QR).o b) := by
  unfold G.smithyardref5_reader_stop.fn
  dsimp only
  rw [QR.at, QR.ld2, ifB_pos hb, QR.at, QR.st2, setS_at, QR.set]
theorem ref_bytes (k : Nat) (S : List LV) (q : QR) (b : LV) (hb : q.bad < 0) (hp : q.pos ≤ q.s.size) (hs : q.s.size ≤ 4000000) {n : Int} (hn : 0 ≤ n) (hn2 : n < 1000000000) (K : ByteArray × Unit → List LV → Option R) :
    G.smithyardref5_reader_bytes.fn k ((S.length, 0), n, ()) (st S q.o b) K = match takeS q.s q.pos n with
      | .error e => K (bs [], ()) (st S ({ q with bad := (e : Int) } : QR).o b)
      | .ok (t, p) => K (t, ()) (st S ({ q with pos := p } : QR).o b) := by
  unfold G.smithyardref5_reader_bytes.fn G.smithyardref5_reader_bytes.q0 takeS
  dsimp only
  simp only [QR.at, QR.ld0, QR.ld1]
  rw [wrap_id (n := (q.s.size : Int) - q.pos) (by omega) (by omega)]
  have e : decide (n > (q.s.size : Int) - q.pos) = decide ((q.s.size : Int) - q.pos < n) := rfl
  rw [e]
  cases hd : decide ((q.s.size : Int) - q.pos < n) with
  | true => rw [ifB_true, ref_stop k S q b hb]
  | false =>
    have hd' := of_decide_eq_false hd
    obtain ⟨m, rfl⟩ : ∃ m : Nat, n = m := ⟨n.toNat, by omega⟩
    have e1 : IntKind.wrap .i64 ((q.pos : Int) + (m : Int)) = ((q.pos + m : Nat) : Int) := by
      rw [wrap_id (by omega) (by omega)]; omega
    rw [ifB_false, e1]
    unfold slStr
    rw [ifB_pos ⟨by omega, by omega, by omega⟩]
    dsimp only
    rw [QR.st1, setS_at, QR.set]
    simp only [Int.toNat_natCast]
def numN (w : ByteArray) : Int := match isNumS w 9 with
  | true => numV w
  | false => 0
theorem ref_bytesIn {k : Nat} (hk : Many k) (s : ByteArray) (hs : s.size ≤ 140737488355328) (lo hi : Int) (S : List LV) (K : Bool × Unit → List LV → Option R) :
    G.smithyardref5_bytesIn.fn k (s, lo, hi, ()) S K = K (scan (fun i => match decide (lo ≤ bt s i) && decide (bt s i ≤ hi) with | true => none | false => some false) true s.size 0, ()) S := by
  unfold Many at hk
  unfold G.smithyardref5_bytesIn.fn
  dsimp only
  rw [← scan_map (fun b => K (b, ()) S)]
  refine rounds_scan0 (fun i => (s, lo, hi, (i : Int), ())) S s.size k _ _ (fun rec i hi' => ?_) (fun rec => ?_) (by omega)
  · unfold G.smithyardref5_bytesIn.b0
    dsimp only
    rw [lt_nat, ifB_pos hi', idxStr_nat hi', idxStr_nat hi', wrap_succ (by omega)]
    by_cases h1 : bt s (i : Int) < lo
    · have h2 : ¬ (lo ≤ bt s (i : Int)) := by omega
      simp [h1, h2]
    · have h2 : lo ≤ bt s (i : Int) := by omega
      by_cases h3 : bt s (i : Int) > hi
      · have h4 : ¬ (bt s (i : Int) ≤ hi) := by omega
        simp [h1, h2, h3, h4]
      · have h4 : bt s (i : Int) ≤ hi := by omega
        simp [h1, h2, h3, h4]
  · unfold G.smithyardref5_bytesIn.b0
    dsimp only
    rw [lt_nat, ifB_neg (Nat.lt_irrefl _)]
theorem dig_scan (s : ByteArray) : scan (fun i => match decide (48 ≤ bt s i) && decide (bt s i ≤ 57) with | true => none | false => some false) true s.size 0 = (toL s).all digB := by
  have := all_bytes s (fun c => decide (48 ≤ c) && decide (c ≤ 57))
  refine Eq.trans (Eq.symm this) ?_
  show (toL s).all _ = _
  congr 1
  funext b
  unfold digB
  rw [Bool.eq_iff_iff]
  simp only [Bool.and_eq_true, decide_eq_true_eq]
  omega
theorem ref_numbered {k : Nat} (hk : Many k) (w : ByteArray) (hw : w.size ≤ 4000000) (S : List LV) (K : Int × Bool × Unit → List LV → Option R) : G.smithyardref5_numbered.fn k (w, 9, ()) S K = K (numN w, isNumS w 9, ()) S := by
  unfold G.smithyardref5_numbered.fn G.smithyardref5_numbered.q0 G.smithyardref5_numbered.q1
  dsimp only
  simp only [ref_bytesIn hk w (by omega), dig_scan]
  have hl := toL_len w
  have no : ∀ b : Bool, b = false → isNumS w 9 = b → K (0, false, ()) S = K (numN w, isNumS w 9, ()) S := fun b hb h => by
    unfold numN
    rw [h, hb]
  by_cases h0 : w.size = 0
  · have e0 : strEq w (bs []) = true := by
      rw [strEq_iff]
      exact toL_inj (by rw [List.eq_nil_of_length_eq_zero (by omega : (toL w).length = 0)]; rfl)
    rw [e0, ifB_true]
    refine no false rfl ?_
    unfold isNumS isNumL
    rw [decide_eq_false (by omega)]; rfl
  · have e0 : strEq w (bs []) = false := by
      rw [← Bool.not_eq_true, strEq_iff]
      intro h; rw [h] at h0; exact h0 rfl
    rw [e0, ifB_false]
    by_cases h9 : w.size ≤ 9
    · rw [ifB_neg (show ¬ ((w.size : Int) > 9) by omega)]
      cases hb : toL w with
      | nil => rw [hb] at hl; simp at hl; omega
      | cons c t =>
        rw [hb] at hl
        simp only [List.length_cons] at hl
        cases ha : (c :: t).all digB with
        | false =>
          have hn : isNumS w 9 = false := by unfold isNumS isNumL; rw [hb, ha]; simp
          rw [Bool.not_false, ifB_true]
          by_cases h1 : w.size > 1
          · rw [ifB_pos (show (w.size : Int) > 1 by omega)]
            have e1 : ∀ K : Int → Option R, idxStr w 0 K = K (bt w 0) := fun K => idxStr_nat (i := 0) (by omega) K
            rw [e1]
            cases bt w 0 == 48 with
            | true => exact no false rfl hn
            | false => exact no false rfl hn
          · rw [ifB_neg (show ¬ (w.size : Int) > 1 by omega)]
            exact no false rfl hn
        | true =>
          have hnum := isNum_cons (d := 9) (by omega) ha
          have hn : isNumS w 9 = (decide (c ≠ 48) || decide (t = [])) := by unfold isNumS; rw [hb]; exact hnum
          rw [Bool.not_true, ifB_false]
          by_cases h1 : w.size > 1
          · rw [ifB_pos (show (w.size : Int) > 1 by omega)]
            have e1 : ∀ K : Int → Option R, idxStr w 0 K = K (bt w 0) := fun K => idxStr_nat (i := 0) (by omega) K
            rw [e1, bt_zero hb]
            have ht : t ≠ [] := fun e => by rw [e] at hl; simp at hl; omega
            by_cases h48 : c = 48
            · subst h48
              have e2 : (((48 : UInt8).toNat : Int) == 48) = true := rfl
              rw [e2, ifB_true]
              refine no false rfl ?_
              rw [hn]; simp [ht]
            · have h7 : c.toNat ≠ 48 := fun e => h48 (UInt8.toNat_inj.1 e)
              have e2 : ((c.toNat : Int) == 48) = false := by rw [beq_eq_false_iff_ne]; omega
              have hy : isNumS w 9 = true := by rw [hn]; simp [h48]
              rw [e2, ifB_false, Atoi_at k (d := 9) (by decide) hy]
              unfold numN
              rw [hy]
          · rw [ifB_neg (show ¬ (w.size : Int) > 1 by omega)]
            have ht : t = [] := List.eq_nil_of_length_eq_zero (by omega)
            have hy : isNumS w 9 = true := by rw [hn]; simp [ht]
            rw [Atoi_at k (d := 9) (by decide) hy]
            unfold numN
            rw [hy]
    · rw [ifB_pos (show (w.size : Int) > 9 by omega)]
      refine no false rfl ?_
      unfold isNumS isNumL
      rw [decide_eq_false (show ¬ (toL w).length ≤ 9 by omega)]
      simp
end
end Go.Lm
