/- The program's reader of results: lines and bytes. -/
import Derived.Test.YtnapepffpbbkoaaGreatDoorLmN
set_option maxRecDepth 100000
namespace Go.Lm
section
variable {R : Type}
/-- A list that is appended to: nil at first. -/
def ow (e z : Nat) (l : List LV) : LV := match l with
  | [] => .nilsl
  | l => .own e z l
theorem asOwn_ow (e z : Nat) (l : List LV) (K : List LV → Option R) : asOwn e z (ow e z l) K = K l := by
  cases l with
  | nil => rfl
  | cons a l =>
    show ifB (Nat.beq e e && Nat.beq z z) _ _ = _
    rw [Nat.beq_refl, Nat.beq_refl]; rfl
theorem asSl_ow (e z : Nat) (l : List LV) (K : List LV → Option R) : asSl z (dupL (ow e z l)) K = K l := by
  cases l with
  | nil => rfl
  | cons a l =>
    show ifB (Nat.beq z z) _ _ = _
    rw [Nat.beq_refl]; rfl
theorem ow_snoc (e z : Nat) (l : List LV) (x : LV) : LV.own e z (l ++ [x]) = ow e z (l ++ [x]) := by
  cases l <;> rfl
theorem at_of {S : List LV} {id t : Nat} {xs : List LV} (h : S.getD id .any = .obj t xs) (K : Nat → List LV → Option R) : objAt S id K = K t xs := by
  unfold objAt
  rw [h]
theorem lt_of {S : List LV} {id t : Nat} {xs : List LV} (h : S.getD id .any = .obj t xs) : id < S.length := by
  rcases Nat.lt_or_ge id S.length with h1 | h1
  · exact h1
  · rw [List.getD_eq_getElem?_getD, List.getElem?_eq_none h1] at h; cases h
theorem has_set {S : List LV} {id t : Nat} {xs : List LV} (h : S.getD id .any = .obj t xs) (v : LV) : (S.set id v).getD id .any = v := by
  have := lt_of h
  simp [List.getD_eq_getElem?_getD, this]
theorem other_set {S : List LV} {id id' : Nat} (h : id ≠ id') (v : LV) : (S.set id v).getD id' .any = S.getD id' .any := by
  simp only [List.getD_eq_getElem?_getD, List.getElem?_set_ne h]
structure RR where
  s : ByteArray
  pos : Nat
  code : Int
  text : ByteArray
  files : List File
  looks : List Look
  cmd : Int
def RR.cells (x : RR) : List LV := [.str x.s, .int .i64 (x.pos : Int), .int .i64 x.code, .str x.text, ow 69 3 (x.files.map File.lv), ow 52 3 (x.looks.map Look.lv), .int .i64 x.cmd]
theorem RR.ld0 (x : RR) (K : ByteArray → Option R) : ldStr x.cells (0 + 0) K = K x.s := rfl
theorem RR.ld1 (x : RR) (K : Int → Option R) : ldInt .i64 x.cells (0 + 1) K = K (x.pos : Int) := rfl
theorem RR.st1 (x : RR) (n : Nat) (K : List LV → Option R) : stO x.cells (0 + 1) [.int .i64 (n : Int)] K = K { x with pos := n }.cells := rfl
theorem RR.st2 (x : RR) (n : Int) (K : List LV → Option R) : stO x.cells ((0 + 2) + 0) [.int .i64 n] K = K { x with code := n }.cells := rfl
theorem RR.st3 (x : RR) (s : ByteArray) (K : List LV → Option R) : stO x.cells ((0 + 2) + 1) [.str s] K = K { x with text := s }.cells := rfl
theorem RR.st6 (x : RR) (n : Int) (K : List LV → Option R) : stO x.cells ((0 + 2) + 4) [.int .i64 n] K = K { x with cmd := n }.cells := rfl
/-- The rest of a text from a place on. -/
def restS (s : ByteArray) (p : Nat) : ByteArray := s.extract p s.size
theorem restS_L (s : ByteArray) (p : Nat) : toL (restS s p) = (toL s).drop p := by
  unfold restS
  rw [toL_extract, List.take_of_length_le (by simp [toL_len])]
theorem restS_size (s : ByteArray) (p : Nat) : (restS s p).size = s.size - p := by rw [← toL_len, restS_L, List.length_drop, toL_len]
theorem rest_at {s : ByteArray} {p : Nat} (h : p ≤ s.size) (K : ByteArray → Option R) : slStr s (p : Int) (s.size : Int) K = K (restS s p) := by
  unfold slStr
  rw [ifB_pos ⟨by omega, by omega, by omega⟩]
  rfl
theorem prog_line {k : Nat} (hk : Many k) {S : List LV} {id : Nat} {x : RR} (h : S.getD id .any = .obj 87 x.cells) (hp : x.pos ≤ x.s.size) (hs : x.s.size ≤ 4000000) (word : ByteArray) (many : Nat) (K : List LV × Int × Bool × Unit → List LV → Option R) :
    G.action_resultReader_line.fn k ((id, 0), word, (many : Int), ()) S K = match wordsS x.s x.pos word many with
      | some (ws, q) => K (ws.map .str, (q : Int), true, ()) S
      | none => K ([], 0, false, ()) S := by
  unfold G.action_resultReader_line.fn G.action_resultReader_line.q0 G.action_resultReader_line.q1
  dsimp only
  simp only [at_of h]
  have hr := restS_size x.s x.pos
  rw [RR.ld0, RR.ld1, rest_at hp, cutS_at k 10 _ (by omega)]
  unfold cutB wordsS lineS
  rw [restS_L]
  have c10 : UInt8.ofNat 10 = 10 := rfl
  have c32 : UInt8.ofNat 32 = 32 := rfl
  rw [c10]
  cases hc : cutL 10 ((toL x.s).drop x.pos) with
  | none =>
    dsimp only
    rw [splitW_at k 32 _ (by omega)]
    rfl
  | some ar =>
    obtain ⟨a, r⟩ := ar
    have hl := cutL_len hc
    rw [List.length_drop, toL_len] at hl
    have ha : (ofL a).size = a.length := ofL_size a
    dsimp only
    rw [splitW_at k 32 _ (by omega), c32]
    dsimp only
    have hw : splitW 32 (ofL a) = (splitL 32 a).map ofL := rfl
    have hlen := splitW_len 32 (ofL a)
    rw [hw] at hlen ⊢
    rw [← any_empty]
    obtain ⟨w, ws, hW⟩ : ∃ w ws, (splitL 32 a).map ofL = w :: ws := by
      cases h : splitL 32 a with
      | nil => exact absurd h (splitL_ne 32 a)
      | cons w ws => exact ⟨_, _, rfl⟩
    rw [hW] at hlen ⊢
    rw [Bool.not_true, ifB_false, List.length_map]
    simp only [List.length_cons] at hlen ⊢
    have e1 : (((ws.length + 1 : Nat) : Int) != (many : Int)) = !(decide (ws.length + 1 = many)) := by
      rw [Bool.eq_iff_iff]; simp; omega
    rw [e1, contains_at hk (w :: ws) (by simp only [List.length_cons]; omega)]
    have e2 : ∀ K : LV → Option R, idxL ((w :: ws).map LV.str) 0 K = K (.str w) := fun K => by
      have := idxL_nat (xs := (w :: ws).map LV.str) (i := 0) (by simp) K
      exact this
    rw [e2]
    have e3 : ∀ K : List LV → Option R, slL ((w :: ws).map LV.str) 1 ((ws.length + 1 : Nat) : Int) K = K (ws.map LV.str) := fun K => by
      unfold slL
      rw [ifB_pos ⟨by omega, by omega, by simp⟩]
      have : (((w :: ws).map LV.str).take ((ws.length + 1 : Nat) : Int).toNat).drop (1 : Int).toNat = ws.map LV.str := by
        rw [List.take_of_length_le (by simp)]; rfl
      rw [this]
    have e4 : IntKind.wrap .i64 (IntKind.wrap .i64 ((x.pos : Int) + ((ofL a).size : Int)) + 1) = ((x.pos + a.length + 1 : Nat) : Int) := by
      rw [ha, wrap_id (n := (x.pos : Int) + (a.length : Int)) (by omega) (by omega), wrap_id (by omega) (by omega)]
      omega
    have e5 : (slL ((w :: ws).map LV.str) 1 ((ws.length + 1 : Nat) : Int) fun l9 => objAt S id fun ty c10 => ldInt IntKind.i64 c10 (0 + 1) fun n11 => K (l9, IntKind.wrap .i64 (IntKind.wrap .i64 (n11 + ((ofL a).size : Int)) + 1), true, ()) S) = K (ws.map .str, ((x.pos + a.length + 1 : Nat) : Int), true, ()) S := by
      rw [e3, at_of h, RR.ld1, e4]
    have e6 : ∀ b : Bool, ifB b (K ([], 0, false, ()) S) (slL ((w :: ws).map LV.str) 1 ((ws.length + 1 : Nat) : Int) fun l9 => objAt S id fun ty c10 => ldInt IntKind.i64 c10 (0 + 1) fun n11 => K (l9, IntKind.wrap .i64 (IntKind.wrap .i64 (n11 + ((ofL a).size : Int)) + 1), true, ()) S) = match b with | true => K ([], 0, false, ()) S | false => K (ws.map .str, ((x.pos + a.length + 1 : Nat) : Int), true, ()) S := fun b => by
      cases b with
      | true => rfl
      | false => rw [ifB_false, e5]
    simp only [e6]
    cases hm : decide (ws.length + 1 = many) with
    | false =>
      cases (w :: ws).any (strEq (bs [])) with
      | true => rfl
      | false => dsimp only; rw [hm]; rfl
    | true =>
      rw [Bool.not_true, ifB_false]
      show ifB (!(strEq w word)) _ _ = _
      cases hq : strEq w word with
      | false =>
        cases (w :: ws).any (strEq (bs [])) with
        | true => rfl
        | false => dsimp only; rw [hm, hq]; rfl
      | true =>
        cases (w :: ws).any (strEq (bs [])) with
        | true => rfl
        | false => dsimp only; rw [hm, hq]; rfl
theorem prog_bytes {k : Nat} {S : List LV} {id : Nat} {x : RR} (h : S.getD id .any = .obj 87 x.cells) (hs : x.s.size ≤ 4000000) (q : Nat) (hq : q ≤ x.s.size) {w : ByteArray} (hw : isNumS w 9 = true) (K : ByteArray × Bool × Unit → List LV → Option R) :
    G.action_resultReader_bytes.fn k ((id, 0), (q : Int), w, ()) S K = match takeS x.s q (numV w) with
      | .error e => K (bs [], false, ()) (S.set id (.obj 87 { x with pos := e }.cells))
      | .ok (b, p) => K (b, true, ()) (S.set id (.obj 87 { x with pos := p }.cells)) := by
  unfold G.action_resultReader_bytes.fn G.action_resultReader_bytes.q0 takeS
  dsimp only
  rw [Atoi_at k (by decide) hw]
  have hv : numV w < 1000000000 ∧ 0 ≤ numV w := by
    unfold isNumS at hw
    rw [isNumL_iff] at hw
    have h1 := valL_lt hw.2.2.1
    have h2 : 10 ^ (toL w).length ≤ 10 ^ 9 := Nat.pow_le_pow_right (by decide) hw.2.1
    have h3 : valL (toL w) < 1000000000 := Nat.lt_of_lt_of_le h1 h2
    unfold numV
    omega
  dsimp only
  rw [at_of h, RR.ld0, wrap_id (n := (x.s.size : Int) - q) (by omega) (by omega)]
  cases hd : decide ((x.s.size : Int) - q < numV w) with
  | true =>
    rw [ifB_true, at_of h, RR.ld0, at_of h, RR.st1]
    rfl
  | false =>
    have hd' := of_decide_eq_false hd
    obtain ⟨n, hn⟩ : ∃ n : Nat, numV w = n := ⟨(numV w).toNat, by omega⟩
    rw [hn] at hd' ⊢
    have e1 : IntKind.wrap .i64 ((q : Int) + (n : Int)) = ((q + n : Nat) : Int) := by
      rw [wrap_id (by omega) (by omega)]; omega
    rw [ifB_false, at_of h, e1, RR.st1]
    unfold setS
    dsimp only
    have h2 := has_set h (.obj 87 { x with pos := q + n }.cells)
    rw [at_of h2, RR.ld0, at_of h2, RR.ld1]
    unfold slStr
    dsimp only
    rw [ifB_pos ⟨by omega, by omega, by omega⟩]
    simp only [Int.toNat_natCast]
end
end Go.Lm
