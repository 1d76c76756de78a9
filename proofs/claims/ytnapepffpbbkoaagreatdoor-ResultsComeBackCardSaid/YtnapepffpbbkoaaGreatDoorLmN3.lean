/- What is read of a result's text: the plain law; the program's reader of the first two lines. -/
import Derived.Test.YtnapepffpbbkoaaGreatDoorLmN2
set_option maxRecDepth 100000
namespace Go.Lm
def isRunS (r : ByteArray) : Bool := strEq r (bs [120]) || strEq r (bs [45])
def topRd (s : ByteArray) : Rd ((Int × Int × ByteArray) × Nat) := match wordsS s 0 (bs [99, 111, 100, 101]) 3 with
  | some ([a, b], q) => (match isNumS a 9 && isNumS b 9 with
    | true => (match wordsS s q (bs [116, 101, 120, 116]) 2 with
      | some ([c], q2) => (match isNumS c 9 with
        | true => (match takeS s q2 (numV c) with
          | .error e => .error e
          | .ok (t, p) => .ok ((numV a, numV b, t), p))
        | false => .error q)
      | _ => .error q)
    | false => .error 0)
  | _ => .error 0
def fileRd (s : ByteArray) (p : Nat) : Rd (File × Nat) := match wordsS s p (bs [102, 105, 108, 101]) 4 with
  | some ([pa, r, n], q) => (match isRunS r && isNumS n 9 with
    | true => (match takeS s q (numV n) with
      | .error e => .error e
      | .ok (b, e) => (match bt s (e : Int) == 10 with
        | true => .ok (⟨pa, strEq r (bs [120]), b, false, fun h => by cases h⟩, e + 1)
        | false => .error e))
    | false => .error p)
  | _ => .error p
def lookRd (s : ByteArray) (p : Nat) : Rd (Look × Nat) := match wordsS s p (bs [108, 111, 111, 107]) 4 with
  | some ([pa, d, r], q) => (match isRunS r with
    | true => .ok (⟨pa, (match strEq d (bs [45]) with | true => bs [] | false => d), strEq r (bs [120])⟩, q)
    | false => .error p)
  | _ => .error p
def prefixS (s : ByteArray) (p : Nat) : Bool := decide (5 ≤ s.size - p) && strEq ((restS s p).extract 0 5) (bs [102, 105, 108, 101, 32])
def filesRd (s : ByteArray) : Nat → Nat → List File → Rd (List File × Nat)
  | 0, p, _ => .error p
  | n + 1, p, fs => match prefixS s p with
    | false => .ok (fs, p)
    | true => match fileRd s p with
      | .error e => .error e
      | .ok (f, q) => filesRd s n q (fs ++ [f])
def looksRd (s : ByteArray) : Nat → Nat → List Look → Rd (List Look)
  | 0, p, _ => .error p
  | n + 1, p, ls => match decide (p < s.size) with
    | false => .ok ls
    | true => match lookRd s p with
      | .error e => .error e
      | .ok (l, q) => looksRd s n q (ls ++ [l])
def readRd (s : ByteArray) : Rd Res := match topRd s with
  | .error e => .error e
  | .ok ((a, b, t), p) => match filesRd s (s.size + 1) p [] with
    | .error e => .error e
    | .ok (fs, q) => match looksRd s (s.size + 1) q [] with
      | .error e => .error e
      | .ok ls => .ok ⟨a, t, fs, ls, b⟩
def Res.zero : Res := ⟨0, bs [], [], [], 0⟩
def readS (s : ByteArray) : Res × Nat × Int := match decide (s.size > 4000000) with
  | true => (Res.zero, 0, 2)
  | false => match readRd s with
    | .error e => (Res.zero, e, 10)
    | .ok x => match checkResS x == 0 with
      | true => (x, 0, 0)
      | false => (Res.zero, 0, checkResS x)
section
variable {R : Type}
theorem words_lt {s : ByteArray} {p q many : Nat} {word : ByteArray} {ws : List ByteArray} (h : wordsS s p word many = some (ws, q)) : p < q ∧ q ≤ s.size ∧ ws.length + 1 = many ∧ ∀ w ∈ ws, w.size ≤ s.size := by
  obtain ⟨h1, h2⟩ := wordsS_some h
  obtain ⟨h3, h4⟩ := lineS_lt h1
  obtain ⟨_, _, h5, h6⟩ := lineS_some h1
  refine ⟨h3, h4, h2, fun w hw => ?_⟩
  have h7 := join_len 32 ((word :: ws).map toL) (toL w) (List.mem_map.2 ⟨w, by simp [hw], rfl⟩)
  rw [toL_len] at h7
  have h8 := congrArg List.length h6
  simp only [List.length_append, List.length_cons, List.length_drop, toL_len] at h8
  have h9 : (joinL 32 ((word :: ws).map toL)).length = (lineOf (word :: ws)).length := rfl
  omega
theorem takeS_le {s b : ByteArray} {q p : Nat} {n : Int} (hn : 0 ≤ n) (h : takeS s q n = .ok (b, p)) : q ≤ p ∧ (q ≤ s.size → p ≤ s.size) ∧ b.size ≤ s.size := by
  unfold takeS at h
  cases hd : decide ((s.size : Int) - q < n) with
  | true => rw [hd] at h; cases h
  | false =>
    rw [hd] at h
    have := of_decide_eq_false hd
    simp only [Except.ok.injEq, Prod.mk.injEq] at h
    obtain ⟨rfl, rfl⟩ := h
    refine ⟨by omega, by omega, ?_⟩
    rw [ByteArray.size_extract]; omega
theorem numV_nonneg (w : ByteArray) : 0 ≤ numV w := by unfold numV; omega
theorem idx_str0 (a : ByteArray) (l : List ByteArray) (K : LV → Option R) : idxL ((a :: l).map LV.str) 0 K = K (.str a) := idxL_nat (xs := (a :: l).map LV.str) (i := 0) (by simp) K
theorem idx_str1 (a b : ByteArray) (l : List ByteArray) (K : LV → Option R) : idxL ((a :: b :: l).map LV.str) 1 K = K (.str b) := idxL_nat (xs := (a :: b :: l).map LV.str) (i := 1) (by simp) K
theorem idx_str2 (a b c : ByteArray) (l : List ByteArray) (K : LV → Option R) : idxL ((a :: b :: c :: l).map LV.str) 2 K = K (.str c) := idxL_nat (xs := (a :: b :: c :: l).map LV.str) (i := 2) (by simp) K
theorem idx_str3 (a b c d : ByteArray) (l : List ByteArray) (K : LV → Option R) : idxL ((a :: b :: c :: d :: l).map LV.str) 3 K = K (.str d) := idxL_nat (xs := (a :: b :: c :: d :: l).map LV.str) (i := 3) (by simp) K
theorem asLeaf_str (a : ByteArray) (K : ByteArray → Option R) : asStr (leaf (.str a) 0) K = K a := rfl
theorem isNumber9 (k : Nat) (s : ByteArray) (hs : s.size ≤ 140737488355328) (S : List LV) (K : Bool × Unit → List LV → Option R) : G.action_isNumber.fn k (s, 9, ()) S K = K (isNumS s 9, ()) S := isNumber_at k s 9 hs S K
theorem prog_line2 {k : Nat} (hk : Many k) {S : List LV} {id : Nat} {x : RR} (h : S.getD id .any = .obj 87 x.cells) (hp : x.pos ≤ x.s.size) (hs : x.s.size ≤ 4000000) (word : ByteArray) (K : List LV × Int × Bool × Unit → List LV → Option R) :
    G.action_resultReader_line.fn k ((id, 0), word, 2, ()) S K = match wordsS x.s x.pos word 2 with
      | some (ws, q) => K (ws.map .str, (q : Int), true, ()) S
      | none => K ([], 0, false, ()) S := prog_line hk h hp hs word 2 K
theorem prog_line3 {k : Nat} (hk : Many k) {S : List LV} {id : Nat} {x : RR} (h : S.getD id .any = .obj 87 x.cells) (hp : x.pos ≤ x.s.size) (hs : x.s.size ≤ 4000000) (word : ByteArray) (K : List LV × Int × Bool × Unit → List LV → Option R) :
    G.action_resultReader_line.fn k ((id, 0), word, 3, ()) S K = match wordsS x.s x.pos word 3 with
      | some (ws, q) => K (ws.map .str, (q : Int), true, ()) S
      | none => K ([], 0, false, ()) S := prog_line hk h hp hs word 3 K
theorem prog_line4 {k : Nat} (hk : Many k) {S : List LV} {id : Nat} {x : RR} (h : S.getD id .any = .obj 87 x.cells) (hp : x.pos ≤ x.s.size) (hs : x.s.size ≤ 4000000) (word : ByteArray) (K : List LV × Int × Bool × Unit → List LV → Option R) :
    G.action_resultReader_line.fn k ((id, 0), word, 4, ()) S K = match wordsS x.s x.pos word 4 with
      | some (ws, q) => K (ws.map .str, (q : Int), true, ()) S
      | none => K ([], 0, false, ()) S := prog_line hk h hp hs word 4 K
theorem setS_at (S : List LV) (K : List LV → Option R) : setS S K = K S := rfl
theorem prog_top {k : Nat} (hk : Many k) {S : List LV} {id : Nat} {x : RR} (h : S.getD id .any = .obj 87 x.cells) (hp : x.pos = 0) (hs : x.s.size ≤ 4000000) :
    match topRd x.s with
    | .error e => ∃ y : RR, y.pos = e ∧ y.s = x.s ∧ ∀ K : Bool × Unit → List LV → Option R, G.action_resultReader_top.fn k ((id, 0), ()) S K = K (false, ()) (S.set id (.obj 87 y.cells))
    | .ok ((a, b, t), p) => ∀ K : Bool × Unit → List LV → Option R, G.action_resultReader_top.fn k ((id, 0), ()) S K = K (true, ()) (S.set id (.obj 87 { x with code := a, cmd := b, text := t, pos := p }.cells)) := by
  have hid := lt_of h
  have hself : S.set id (.obj 87 x.cells) = S := set_same S id _ h
  have bad0 : ∀ f : (Bool × Unit → List LV → Option R) → Option R, (∀ K, f K = K (false, ()) S) → ∃ y : RR, y.pos = 0 ∧ y.s = x.s ∧ ∀ K, f K = K (false, ()) (S.set id (.obj 87 y.cells)) := fun f hf => ⟨x, hp, rfl, fun K => by rw [hf, hself]⟩
  unfold topRd G.action_resultReader_top.fn
  dsimp only
  simp only [prog_line3 hk h (by omega) hs, hp]
  cases hw : wordsS x.s 0 (bs [99, 111, 100, 101]) 3 with
  | none => exact bad0 _ fun K => rfl
  | some wq =>
    obtain ⟨ws, q⟩ := wq
    obtain ⟨l1, l2, l3, l4⟩ := words_lt hw
    match ws, l3 with
    | [a, b], _ =>
      have sa := l4 a (by simp)
      have sb := l4 b (by simp)
      dsimp only
      simp only [Bool.not_true, ifB_false, idx_str0, idx_str1, asLeaf_str, isNumber9 k a (by omega), isNumber9 k b (by omega)]
      cases ha : isNumS a 9 with
      | false => exact bad0 _ fun K => rfl
      | true =>
        simp only [Bool.not_true, ifB_false]
        cases hb : isNumS b 9 with
        | false => exact bad0 _ fun K => rfl
        | true =>
          simp only [Bool.not_true, ifB_false, Bool.and_true]
          unfold G.action_resultReader_top.q0 G.action_resultReader_top.q1 G.action_resultReader_top.q2 G.action_resultReader_top.q3
          dsimp only
          simp only [idx_str0, idx_str1, asLeaf_str, Atoi_at k (d := 9) (by decide) ha, Atoi_at k (d := 9) (by decide) hb, at_of h, RR.st2, setS_at, at_of (has_set h _), RR.st6, List.set_set, RR.st1]
          have h2 := has_set h (.obj 87 (RR.cells { s := x.s, pos := q, code := numV a, text := x.text, files := x.files, looks := x.looks, cmd := numV b }))
          have bad1 : ∀ f : (Bool × Unit → List LV → Option R) → Option R, (∀ K, f K = K (false, ()) (S.set id (.obj 87 (RR.cells { s := x.s, pos := q, code := numV a, text := x.text, files := x.files, looks := x.looks, cmd := numV b })))) → ∃ y : RR, y.pos = q ∧ y.s = x.s ∧ ∀ K, f K = K (false, ()) (S.set id (.obj 87 y.cells)) := fun f hf => ⟨{ s := x.s, pos := q, code := numV a, text := x.text, files := x.files, looks := x.looks, cmd := numV b }, rfl, rfl, hf⟩
          simp only [prog_line2 hk h2 (show q ≤ x.s.size by omega) hs]
          cases hw2 : wordsS x.s q (bs [116, 101, 120, 116]) 2 with
          | none => exact bad1 _ fun K => rfl
          | some wq2 =>
            obtain ⟨ws2, q2⟩ := wq2
            obtain ⟨m1, m2, m3, m4⟩ := words_lt hw2
            match ws2, m3 with
            | [c], _ =>
              have sc := m4 c (by simp)
              dsimp only
              unfold G.action_resultReader_top.q4 G.action_resultReader_top.q5
              dsimp only
              simp only [Bool.not_true, ifB_false, idx_str0, asLeaf_str, isNumber9 k c (by omega)]
              cases hc : isNumS c 9 with
              | false => exact bad1 _ fun K => rfl
              | true =>
                simp only [Bool.not_true, ifB_false, prog_bytes h2 (show x.s.size ≤ 4000000 from hs) q2 (show q2 ≤ x.s.size by omega) hc]
                cases ht : takeS x.s q2 (numV c) with
                | error e =>
                  dsimp only
                  refine ⟨{ s := x.s, pos := e, code := numV a, text := bs [], files := x.files, looks := x.looks, cmd := numV b }, rfl, rfl, fun K => ?_⟩
                  simp only [List.set_set, at_of (has_set h _), RR.st3, setS_at]
                | ok tp =>
                  obtain ⟨t, p⟩ := tp
                  dsimp only
                  intro K
                  simp only [List.set_set, at_of (has_set h _), RR.st3, setS_at]
theorem prog_isRun (k : Nat) (s : ByteArray) (S : List LV) (K : Bool × Unit → List LV → Option R) : G.action_isRun.fn k (s, ()) S K = K (isRunS s, ()) S := by
  unfold G.action_isRun.fn isRunS
  dsimp only
  cases strEq s (bs [120]) <;> rfl
theorem RR.own4 (x : RR) (K : List LV → Option R) : asOwn 69 3 (x.cells.getD ((0 + 2) + 2) .any) K = K (x.files.map File.lv) := asOwn_ow 69 3 _ K
theorem RR.own5 (x : RR) (K : List LV → Option R) : asOwn 52 3 (x.cells.getD ((0 + 2) + 3) .any) K = K (x.looks.map Look.lv) := asOwn_ow 52 3 _ K
theorem RR.st4 (x : RR) (f : File) (v : LV) (K : List LV → Option R) : stO (x.cells.set ((0 + 2) + 2) v) ((0 + 2) + 2) [.own 69 3 (x.files.map File.lv ++ [f.lv])] K = K { x with files := x.files ++ [f] }.cells := by
  have e : (LV.own 69 3 (x.files.map File.lv ++ [f.lv])) = ow 69 3 ((x.files ++ [f]).map File.lv) := by rw [ow_snoc, List.map_append]; rfl
  rw [e]
  rfl
theorem RR.st5 (x : RR) (f : Look) (v : LV) (K : List LV → Option R) : stO (x.cells.set ((0 + 2) + 3) v) ((0 + 2) + 3) [.own 52 3 (x.looks.map Look.lv ++ [f.lv])] K = K { x with looks := x.looks ++ [f] }.cells := by
  have e : (LV.own 52 3 (x.looks.map Look.lv ++ [f.lv])) = ow 52 3 ((x.looks ++ [f]).map Look.lv) := by rw [ow_snoc, List.map_append]; rfl
  rw [e]
  rfl
theorem prog_file {k : Nat} (hk : Many k) {S : List LV} {id : Nat} {x : RR} (h : S.getD id .any = .obj 87 x.cells) (hp : x.pos ≤ x.s.size) (hs : x.s.size ≤ 4000000) (hf : x.files.length ≤ 4000000) :
    match fileRd x.s x.pos with
    | .error e => ∃ y : RR, y.pos = e ∧ y.s = x.s ∧ ∀ K : Bool × Unit → List LV → Option R, G.action_resultReader_file.fn k ((id, 0), ()) S K = K (false, ()) (S.set id (.obj 87 y.cells))
    | .ok (f, p) => ∀ K : Bool × Unit → List LV → Option R, G.action_resultReader_file.fn k ((id, 0), ()) S K = K (true, ()) (S.set id (.obj 87 { x with files := x.files ++ [f], pos := p }.cells)) := by
  have hself : S.set id (.obj 87 x.cells) = S := set_same S id _ h
  have bad0 : ∀ f : (Bool × Unit → List LV → Option R) → Option R, (∀ K, f K = K (false, ()) S) → ∃ y : RR, y.pos = x.pos ∧ y.s = x.s ∧ ∀ K, f K = K (false, ()) (S.set id (.obj 87 y.cells)) := fun f hf => ⟨x, rfl, rfl, fun K => by rw [hf, hself]⟩
  unfold fileRd G.action_resultReader_file.fn
  dsimp only
  simp only [prog_line4 hk h hp hs]
  cases hw : wordsS x.s x.pos (bs [102, 105, 108, 101]) 4 with
  | none => exact bad0 _ fun K => rfl
  | some wq =>
    obtain ⟨ws, q⟩ := wq
    obtain ⟨l1, l2, l3, l4⟩ := words_lt hw
    match ws, l3 with
    | [pa, r, n], _ =>
      have sn := l4 n (by simp)
      dsimp only
      simp only [Bool.not_true, ifB_false, idx_str0, idx_str1, idx_str2, asLeaf_str, prog_isRun, isNumber9 k n (by omega)]
      cases hr : isRunS r with
      | false => exact bad0 _ fun K => rfl
      | true =>
        simp only [Bool.not_true, ifB_false, Bool.true_and]
        cases hn : isNumS n 9 with
        | false => exact bad0 _ fun K => rfl
        | true =>
          unfold G.action_resultReader_file.q0
          dsimp only
          simp only [Bool.not_true, ifB_false, idx_str2, asLeaf_str, prog_bytes h hs q (show q ≤ x.s.size by omega) hn]
          cases ht : takeS x.s q (numV n) with
          | error e => exact ⟨{ x with pos := e }, rfl, rfl, fun K => rfl⟩
          | ok tp =>
            obtain ⟨t, p⟩ := tp
            obtain ⟨t1, t2, t3⟩ := takeS_le (numV_nonneg n) ht
            have t2 := t2 (by omega)
            unfold G.action_resultReader_file.q1 G.action_resultReader_file.q2 G.action_resultReader_file.q3
            dsimp only
            simp only [Bool.not_true, ifB_false, at_of (has_set h _), RR.ld1, RR.ld0]
            by_cases hps : p = x.s.size
            · have e1 : (((p : Nat) : Int) == (x.s.size : Int)) = true := by rw [beq_iff_eq]; omega
              have e2 : (bt x.s (p : Int) == 10) = false := by
                unfold bt
                rw [Int.toNat_natCast, dif_neg (by omega)]; rfl
              simp only [e1, e2, ifB_true]
              exact ⟨{ x with pos := p }, rfl, rfl, fun K => rfl⟩
            · have e1 : (((p : Nat) : Int) == (x.s.size : Int)) = false := by rw [beq_eq_false_iff_ne]; omega
              have e3 : ∀ n : Int, (n != 10) = !(n == 10) := fun _ => rfl
              simp only [e1, ifB_false, idxStr_nat (show p < x.s.size by omega), e3]
              cases hb : bt x.s (p : Int) == 10 with
              | false => exact ⟨{ x with pos := p }, rfl, rfl, fun K => rfl⟩
              | true =>
                dsimp only
                intro K
                have e4 : decide (t.size ≤ 9223372036854775807) = true := decide_eq_true (by omega)
                have e5 : ∀ K : List LV → Option R, app 48 (x.files.map File.lv) [.agg [.str pa, .bool (strEq r (bs [120])), .sl 1 (bytesL t)]] K = K (x.files.map File.lv ++ [(File.lv ⟨pa, strEq r (bs [120]), t, false, fun h => by cases h⟩)]) := fun K => app_le (by simp; omega) (by simp; omega)
                simp only [Bool.not_true, ifB_false, wrap_succ (show p < 9223372036854775807 by omega), RR.st1, setS_at, List.set_set, at_of (has_set h _), idx_str0, idx_str1, asLeaf_str, e4, ifB_true, RR.own4, e5, RR.st4]
theorem prog_look {k : Nat} (hk : Many k) {S : List LV} {id : Nat} {x : RR} (h : S.getD id .any = .obj 87 x.cells) (hp : x.pos ≤ x.s.size) (hs : x.s.size ≤ 4000000) (hf : x.looks.length ≤ 4000000) :
    match lookRd x.s x.pos with
    | .error e => ∃ y : RR, y.pos = e ∧ y.s = x.s ∧ ∀ K : Bool × Unit → List LV → Option R, G.action_resultReader_look.fn k ((id, 0), ()) S K = K (false, ()) (S.set id (.obj 87 y.cells))
    | .ok (l, p) => ∀ K : Bool × Unit → List LV → Option R, G.action_resultReader_look.fn k ((id, 0), ()) S K = K (true, ()) (S.set id (.obj 87 { x with looks := x.looks ++ [l], pos := p }.cells)) := by
  have hself : S.set id (.obj 87 x.cells) = S := set_same S id _ h
  have bad0 : ∀ f : (Bool × Unit → List LV → Option R) → Option R, (∀ K, f K = K (false, ()) S) → ∃ y : RR, y.pos = x.pos ∧ y.s = x.s ∧ ∀ K, f K = K (false, ()) (S.set id (.obj 87 y.cells)) := fun f hf => ⟨x, rfl, rfl, fun K => by rw [hf, hself]⟩
  unfold lookRd G.action_resultReader_look.fn
  dsimp only
  simp only [prog_line4 hk h hp hs]
  cases hw : wordsS x.s x.pos (bs [108, 111, 111, 107]) 4 with
  | none => exact bad0 _ fun K => rfl
  | some wq =>
    obtain ⟨ws, q⟩ := wq
    obtain ⟨l1, l2, l3, l4⟩ := words_lt hw
    match ws, l3 with
    | [pa, d, r], _ =>
      dsimp only
      simp only [Bool.not_true, ifB_false, idx_str0, idx_str1, idx_str2, asLeaf_str, prog_isRun]
      cases hr : isRunS r with
      | false => exact bad0 _ fun K => rfl
      | true =>
        have e5 : ∀ (l : Look) (K : List LV → Option R), app 40 (x.looks.map Look.lv) [.agg [.str l.p, .str l.d, .bool l.r]] K = K (x.looks.map Look.lv ++ [l.lv]) := fun l K => app_le (by simp; omega) (by simp; omega)
        unfold G.action_resultReader_look.q0 G.action_resultReader_look.q1
        dsimp only
        cases hd : strEq d (bs [45]) with
        | true =>
          dsimp only
          intro K
          have e6 := e5 ⟨pa, bs [], strEq r (bs [120])⟩
          dsimp only at e6
          simp only [Bool.not_true, ifB_false, ifB_true, at_of h, RR.own5, setS_at, e6, at_of (has_set h _), RR.st5, List.set_set, RR.st1]
        | false =>
          dsimp only
          intro K
          have e6 := e5 ⟨pa, d, strEq r (bs [120])⟩
          dsimp only at e6
          simp only [Bool.not_true, ifB_false, at_of h, RR.own5, setS_at, e6, at_of (has_set h _), RR.st5, List.set_set, RR.st1]
end
end Go.Lm
