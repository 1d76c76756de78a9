/- Reading a result: the program's function, whole. -/
import Derived.Test.YtnapepffpbbkoaaGreatDoorLmN4
set_option maxRecDepth 100000
namespace Go.Lm
theorem topRd_ok {s t : ByteArray} {a b : Int} {p : Nat} (h : topRd s = .ok ((a, b, t), p)) : p ≤ s.size ∧ t.size ≤ s.size := by
  unfold topRd at h
  split at h
  · rename_i a b q hw
    split at h
    · split at h
      · rename_i c q2 hw2
        obtain ⟨l1, l2, _, l4⟩ := words_lt hw2
        split at h
        · split at h
          · cases h
          · rename_i t e ht
            obtain ⟨t1, t2, t3⟩ := takeS_le (numV_nonneg c) ht
            simp only [Except.ok.injEq, Prod.mk.injEq] at h
            obtain ⟨⟨_, _, rfl⟩, rfl⟩ := h
            exact ⟨t2 l2, t3⟩
        · cases h
      · cases h
    · cases h
  · cases h
theorem readRd_ok {s : ByteArray} {r : Res} (h : readRd s = .ok r) (hs : s.size ≤ 4000000) : ResOk r := by
  unfold readRd at h
  split at h
  · cases h
  · rename_i a b t p ht
    obtain ⟨h1, h2⟩ := topRd_ok ht
    split at h
    · cases h
    · rename_i fs q hf
      obtain ⟨f1, f2, f3, f4⟩ := filesRd_ok s _ _ _ _ _ hf h1 (Nat.zero_le _) (fun f hf => by cases hf)
      split at h
      · cases h
      · rename_i ls hl
        obtain ⟨g1, g2⟩ := looksRd_ok s _ _ _ _ hl f2 (Nat.zero_le _) (fun f hf => by cases hf)
        cases h
        exact ⟨by show t.size ≤ _; omega, ⟨by show fs.length ≤ _; omega, fun y hy => by have := (f4 y hy).2; omega, fun y hy => by have := (f4 y hy).1; omega⟩, fun y hy => by have := (g2 y hy).2; omega⟩
def RR.ofRes (s : ByteArray) (q : Nat) (r : Res) : RR := ⟨s, q, r.code, r.text, r.files, r.looks, r.cmd⟩
theorem file_noId (x : File) : noId 3 x.lv = true := by
  unfold File.lv File.leaf
  cases x.nil with
  | true => rfl
  | false =>
    show ([LV.str x.p, .bool x.r, .sl 1 (bytesL x.b)].all (noId 2)) = true
    have : (bytesL x.b).all (noId 1) = true := by
      unfold bytesL
      rw [List.all_map, List.all_eq_true]
      intro b _; rfl
    simp only [List.all_cons, List.all_nil, Bool.and_true, Bool.and_eq_true]
    exact ⟨rfl, rfl, this⟩
theorem noId_files (l : List File) : (l.map File.lv).all (noId 3) = true := by
  rw [List.all_map, List.all_eq_true]
  intro x _; exact file_noId x
theorem noId_looks (l : List Look) : (l.map Look.lv).all (noId 3) = true := by
  rw [List.all_map, List.all_eq_true]
  intro x _; rfl
section
variable {R : Type}
theorem RR.ldR (x : RR) (K : Int → ByteArray → List LV → List LV → Int → Option R) :
    (ifB (Nat.ble (2 + 5) x.cells.length) (asInt .i64 ((x.cells.map dupL).getD 2 .any) fun n6 => asStr ((x.cells.map dupL).getD (2 + 1) .any) fun s7 => asSl 3 ((x.cells.map dupL).getD ((2 + 1) + 1) .any) fun l8 => asSl 3 ((x.cells.map dupL).getD (((2 + 1) + 1) + 1) .any) fun l9 => asInt .i64 ((x.cells.map dupL).getD ((((2 + 1) + 1) + 1) + 1) .any) fun n10 => K n6 s7 l8 l9 n10) none) = K x.code x.text (x.files.map File.lv) (x.looks.map Look.lv) x.cmd := by
  show asSl 3 (dupL (ow 69 3 (x.files.map File.lv))) (fun l8 => asSl 3 (dupL (ow 52 3 (x.looks.map Look.lv))) fun l9 => K x.code x.text l8 l9 x.cmd) = _
  rw [asSl_ow, asSl_ow]
theorem RR.ld1' (x : RR) (K : Int → Option R) : ldInt .i64 x.cells 1 K = K (x.pos : Int) := rfl
theorem prog_all {k : Nat} (hk : Many k) {S : List LV} {id : Nat} {x : RR} (h : S.getD id .any = .obj 87 x.cells) (hx : x = ⟨x.s, 0, 0, bs [], [], [], 0⟩) (hs : x.s.size ≤ 4000000) :
    match readRd x.s with
    | .error e => ∃ y : RR, y.pos = e ∧ y.s = x.s ∧ ∀ K : Bool × Unit → List LV → Option R, G.action_resultReader_all.fn k ((id, 0), ()) S K = K (false, ()) (S.set id (.obj 87 y.cells))
    | .ok r => ∃ q, ∀ K : Bool × Unit → List LV → Option R, G.action_resultReader_all.fn k ((id, 0), ()) S K = K (true, ()) (S.set id (.obj 87 (RR.ofRes x.s q r).cells)) := by
  have hk' := hk
  unfold Many at hk'
  unfold readRd G.action_resultReader_all.fn
  dsimp only
  have hp : x.pos = 0 := by rw [hx]
  have hf : x.files = [] := by rw [hx]
  have hl : x.looks = [] := by rw [hx]
  have ht := prog_top (R := R) hk h hp hs
  cases hr : topRd x.s with
  | error e =>
    rw [hr] at ht
    obtain ⟨y, h1, h2, h3⟩ := ht
    dsimp only
    refine ⟨y, h1, h2, fun K => ?_⟩
    rw [h3]; rfl
  | ok abtp =>
    obtain ⟨⟨a, b, t⟩, p⟩ := abtp
    rw [hr] at ht
    obtain ⟨o1, o2⟩ := topRd_ok hr
    dsimp only at ht ⊢
    simp only [ht, Bool.not_true, ifB_false]
    have hF := prog_files (R := R) hk id (x.s.size + 1) k _ { x with code := a, cmd := b, text := t, pos := p } (has_set h _) o1 hs (by rw [hf]; exact Nat.zero_le _) (by dsimp only; omega) (by omega)
    dsimp only at hF
    rw [hf] at hF
    cases hr2 : filesRd x.s (x.s.size + 1) p [] with
    | error e =>
      rw [hr2] at hF
      obtain ⟨y, h1, h2, h3⟩ := hF
      dsimp only
      refine ⟨y, h1, h2, fun K => ?_⟩
      rw [hf, h3, List.set_set]
    | ok fq =>
      obtain ⟨fs, q⟩ := fq
      rw [hr2] at hF
      obtain ⟨f1, f2, f3, f4⟩ := filesRd_ok x.s _ _ _ _ _ hr2 o1 (Nat.zero_le _) (fun f hf => by cases hf)
      dsimp only at hF ⊢
      rw [hf]
      simp only [hF, List.set_set]
      have hL := prog_looks (R := R) hk id (x.s.size + 1) k _ { x with code := a, cmd := b, text := t, pos := q, files := fs } (has_set h _) f2 hs (by rw [hl]; exact Nat.zero_le _) (by dsimp only; omega) (by omega)
      dsimp only at hL
      rw [hl] at hL
      cases hr3 : looksRd x.s (x.s.size + 1) q [] with
      | error e =>
        rw [hr3] at hL
        obtain ⟨y, h1, h2, h3⟩ := hL
        dsimp only
        refine ⟨y, h1, h2, fun K => ?_⟩
        rw [hl, h3, List.set_set]
      | ok ls =>
        rw [hr3] at hL
        obtain ⟨q', hL⟩ := hL
        dsimp only
        refine ⟨q', fun K => ?_⟩
        rw [hl, hL, List.set_set]
        rfl
theorem prog_ReadResult0 {k : Nat} (hk : Many k) (s : ByteArray) (S : List LV) : ∃ G', ∀ K : (Int × ByteArray × List LV × List LV × Int × Unit) × Int × Int × Unit → List LV → Option R, G.action_ReadResult.fn0 k (s, ()) S K = K ((readS s).1.tup, ((readS s).2.1 : Int), (readS s).2.2, ()) (S ++ G') := by
  unfold G.action_ReadResult.fn0 readS
  have e1 : decide ((s.size : Int) > (4000000 : Int)) = decide (s.size > 4000000) := gt_nat _ 4000000
  dsimp only
  simp only [e1]
  cases hd : decide (s.size > 4000000) with
  | true => exact ⟨[], fun K => by rw [List.append_nil]; rfl⟩
  | false =>
    have hs : s.size ≤ 4000000 := by have := of_decide_eq_false hd; omega
    have hid : (S ++ [LV.obj 87 [.str s, .int .i64 0, .int .i64 0, .str (bs []), .nilsl, .nilsl, .int .i64 0]]).getD S.length .any = .obj 87 (RR.cells ⟨s, 0, 0, bs [], [], [], 0⟩) := by
      simp [List.getD_eq_getElem?_getD]; rfl
    have ha := prog_all (R := R) hk hid rfl hs
    dsimp only at ha
    unfold newObj
    dsimp only
    cases hr : readRd s with
    | error e =>
      rw [hr] at ha
      obtain ⟨y, h1, h2, h3⟩ := ha
      dsimp only
      refine ⟨[.obj 87 y.cells], fun K => ?_⟩
      rw [ifB_false, h3, setLast]
      dsimp only
      rw [Bool.not_false, ifB_true, objAt_at (T := []), RR.ld1', h1]
      rfl
    | ok r =>
      rw [hr] at ha
      obtain ⟨q, h3⟩ := ha
      dsimp only
      have ok := readRd_ok hr hs
      refine ⟨[.obj 87 (RR.ofRes s q r).cells], fun K => ?_⟩
      rw [ifB_false, h3, setLast]
      dsimp only
      rw [Bool.not_true, ifB_false, objAt_at (T := []), RR.ldR]
      have hc := prog_CheckResult (R := R) hk r ok
      unfold RR.ofRes
      dsimp only
      show G.action_CheckResult.fn k (r.tup, ()) _ _ = _
      rw [hc]
      dsimp only
      have h0 : ∀ n : Int, (n != 0) = !(n == 0) := fun n => rfl
      rw [h0]
      cases hz : checkResS r == 0 with
      | false => rfl
      | true =>
        rw [Bool.not_true, ifB_false]
        show objAt (S ++ [.obj 87 (RR.ofRes s q r).cells]) S.length _ = _
        rw [objAt_at (T := []), RR.ldR]
        rfl
theorem noId_read (x : Res × Nat × Int) : noId 6 (resE G.action_ReadResult.rs (x.1.tup, (x.2.1 : Int), x.2.2, ())) = true := by
  obtain ⟨r, n, f⟩ := x
  show ([LV.agg [.int .i64 r.code, .str r.text, .sl 3 (r.files.map File.lv), .sl 3 (r.looks.map Look.lv), .int .i64 r.cmd], .int .i64 n, .int .i64 f].all (noId 5)) = true
  have h1 := noId_files r.files
  have h2 := noId_looks r.looks
  simp only [List.all_cons, List.all_nil, Bool.and_true, Bool.and_eq_true]
  refine ⟨?_, rfl, rfl⟩
  show ([LV.int .i64 r.code, .str r.text, .sl 3 (r.files.map File.lv), .sl 3 (r.looks.map Look.lv), .int .i64 r.cmd].all (noId 4)) = true
  simp only [List.all_cons, List.all_nil, Bool.and_true, Bool.and_eq_true]
  exact ⟨rfl, rfl, h1, h2, rfl⟩
theorem prog_ReadResult {k : Nat} (hk : Many k) (s : ByteArray) (S : List LV) (K : (Int × ByteArray × List LV × List LV × Int × Unit) × Int × Int × Unit → List LV → Option R) : G.action_ReadResult.fn k (s, ()) S K = K ((readS s).1.tup, ((readS s).2.1 : Int), (readS s).2.2, ()) S := by
  obtain ⟨G', h⟩ := prog_ReadResult0 (R := LV × List LV) hk s S
  exact popK_at (h _) (noId_read _)
end
end Go.Lm
