/- Reading a result: the reference's function, whole; the law ResultsReadMatchSpec's function answers true. -/
import Derived.Test.YtnapepffpbbkoaaGreatDoorLmN8
set_option maxRecDepth 100000
namespace Go.Lm
theorem words_none {s : ByteArray} {p many : Nat} (word : ByteArray) (h : (lineW s p).length ≠ many) (hm : 0 < many) : wordsS s p word many = none := by
  cases hw : wordsS s p word many with
  | none => rfl
  | some wq =>
    obtain ⟨ws, q⟩ := wq
    obtain ⟨h1, h2⟩ := wordsS_some hw
    exfalso
    apply h
    unfold lineW
    rw [h1]
    simpa using h2
section
variable {R : Type}
theorem ref_files {k : Nat} (hk : Many k) (S : List LV) (s : ByteArray) (hs : s.size ≤ 4000000) : ∀ (n m p : Nat) (r : Res), p ≤ s.size → r.looks = [] → r.files.length ≤ p → s.size - p < n → n + s.size + 3 ≤ m →
    match filesRd s n p r.files with
    | .error e => ∃ p' y, ∀ J : JTy R, rounds (G.smithyardref5_ReadResult.b0 k J) m (LoopT S s) (st S (⟨s, p, -1⟩ : QR).o r.o) = J (EndT S) (st S (⟨s, p', (e : Int)⟩ : QR).o (Res.o y))
    | .ok (fs, q) => match looksRd s (s.size + 1) q [] with
      | .error e => ∃ p' y, ∀ J : JTy R, rounds (G.smithyardref5_ReadResult.b0 k J) m (LoopT S s) (st S (⟨s, p, -1⟩ : QR).o r.o) = J (EndT S) (st S (⟨s, p', (e : Int)⟩ : QR).o (Res.o y))
      | .ok ls => ∃ p', ∀ J : JTy R, rounds (G.smithyardref5_ReadResult.b0 k J) m (LoopT S s) (st S (⟨s, p, -1⟩ : QR).o r.o) = J (EndT S) (st S (⟨s, p', -1⟩ : QR).o ({ r with files := fs, looks := ls } : Res).o)
  | 0, m, p, r, _, _, _, hn, _ => by omega
  | n + 1, m, p, r, hp, hl, hf, hn, hm => by
    unfold filesRd
    cases hpr : prefixS s p with
    | false =>
      dsimp only
      have h := ref_looks (R := R) hk S s hs (s.size + 1) m p r hp (by rw [hl]; exact Nat.zero_le _) (.inr hpr) (by omega) (by omega)
      rw [hl] at h
      exact h
    | true =>
      dsimp only
      obtain ⟨m, rfl⟩ : ∃ m', m = m' + 1 := ⟨m - 1, by omega⟩
      have hlt : p < s.size := by
        obtain ⟨x, hx⟩ := (prefix_iff s p).1 hpr
        have := congrArg List.length hx
        simp only [List.length_drop, toL_len, List.length_append, List.length_cons, List.length_nil] at this
        omega
      obtain ⟨p1, hq1, hround⟩ := ref_round (R := R) hk S s hs r p hlt
      by_cases h4 : (lineW s p).length = 4
      · have hls : ∃ ws, lineS s p = some (ws, p1) ∧ lineW s p = ws := by
          unfold lineW at h4 ⊢
          cases hls : lineS s p with
          | none => rw [hls] at h4; cases h4
          | some wq =>
            obtain ⟨ws, q⟩ := wq
            have := hq1 ws q hls
            subst this
            exact ⟨ws, rfl, rfl⟩
        obtain ⟨ws, hls, hL⟩ := hls
        rw [hL] at h4 hround
        match ws, h4 with
        | [w, a, b, c], _ =>
          have hw : strEq w (bs [102, 105, 108, 101]) = true := by rw [← prefix_word hls, hpr]
          have hfile := ref_file (R := R) hk S s hs r (by omega) p p1 w a b c hls hw
          have hq : ∀ J : JTy R, rounds (G.smithyardref5_ReadResult.b0 k J) (m + 1) (LoopT S s) (st S (⟨s, p, -1⟩ : QR).o r.o) = G.smithyardref5_reader_file.fn k ((S.length, 0), [w, a, b, c].map LV.str, (p : Int), (S.length + 1, 0), ()) (st S (⟨s, p1, -1⟩ : QR).o r.o) fun _ S' => rounds (G.smithyardref5_ReadResult.b0 k J) m (LoopT S s) S' := fun J => by
            rw [hround]
            have ef : flagW [w, a, b, c] r = true := by
              show (strEq w (bs [102, 105, 108, 101]) && decide (r.looks = [])) = true
              rw [hw, hl]; rfl
            rw [ef]
            unfold G.smithyardref5_ReadResult.q0
            rfl
          simp only [hq]
          cases hfr : fileRd s p with
          | error e =>
            rw [hfr] at hfile
            obtain ⟨p', y, h⟩ := hfile
            dsimp only
            refine ⟨p', y, fun J => ?_⟩
            rw [h, ref_stopped k S s p' e y m (by omega)]
          | ok fq =>
            obtain ⟨f, q⟩ := fq
            rw [hfr] at hfile
            obtain ⟨a1, a2, a3, a4⟩ := fileRd_lt hfr
            dsimp only at hfile ⊢
            simp only [hfile]
            exact ref_files hk S s hs n m q { r with files := r.files ++ [f] } a2 hl (by simp; omega) (by omega) (by omega)
      · have hflag : flagW (lineW s p) r = false := by
          unfold flagW
          split
          · rename_i h; rw [h] at h4; exact absurd rfl h4
          · rfl
        rw [hflag] at hround
        have hq0 := ref_q0 (R := R) k S s hs r (by rw [hl]; exact Nat.zero_le _) p p1 hq1
        have e1 : lookRd s p = .error p := by unfold lookRd; rw [words_none _ h4 (by decide)]
        have e2 : fileRd s p = .error p := by unfold fileRd; rw [words_none _ h4 (by decide)]
        rw [e1] at hq0
        rw [e2]
        dsimp only at hq0 ⊢
        refine ⟨p1, r, fun J => ?_⟩
        rw [hround, hq0, ref_stopped k S s p1 p r m (by omega)]
theorem Res.ldR (x : Res) (K : Int → ByteArray → List LV → List LV → Int → Option R) :
    (ifB (Nat.ble (0 + 5) x.cells.length) (asInt .i64 ((x.cells.map dupL).getD 0 .any) fun n6 => asStr ((x.cells.map dupL).getD (0 + 1) .any) fun s7 => asSl 3 ((x.cells.map dupL).getD ((0 + 1) + 1) .any) fun l8 => asSl 3 ((x.cells.map dupL).getD (((0 + 1) + 1) + 1) .any) fun l9 => asInt .i64 ((x.cells.map dupL).getD ((((0 + 1) + 1) + 1) + 1) .any) fun n10 => K n6 s7 l8 l9 n10) none) = K x.code x.text (x.files.map File.lv) (x.looks.map Look.lv) x.cmd := by
  show asSl 3 (dupL (ow 69 3 (x.files.map File.lv))) (fun l8 => asSl 3 (dupL (ow 52 3 (x.looks.map Look.lv))) fun l9 => K x.code x.text l8 l9 x.cmd) = _
  rw [asSl_ow, asSl_ow]
theorem ref_ReadResult0 {k : Nat} (hk : Many k) (s : ByteArray) (S : List LV) : ∃ G', ∀ K : ResT × Int × Int × Unit → List LV → Option R, G.smithyardref5_ReadResult.fn0 k (s, ()) S K = K ((readS s).1.tup, ((readS s).2.1 : Int), (readS s).2.2, ()) (S ++ G') := by
  have hk' := hk
  unfold Many at hk'
  unfold G.smithyardref5_ReadResult.fn0 readS
  have e1 : decide ((s.size : Int) > (4000000 : Int)) = decide (s.size > 4000000) := gt_nat _ 4000000
  dsimp only
  simp only [e1]
  cases hd : decide (s.size > 4000000) with
  | true => exact ⟨[], fun K => by rw [List.append_nil]; rfl⟩
  | false =>
    have hs : s.size ≤ 4000000 := by have := of_decide_eq_false hd; omega
    unfold newObj
    dsimp only
    have ei : (S ++ [LV.obj 90 [.str s, .int .i64 0, .int .i64 (-1)]]).length = S.length + 1 := by simp
    have es : (S ++ [LV.obj 90 [.str s, .int .i64 0, .int .i64 (-1)]]) ++ [.obj 25 [.int .i64 0, .str (bs []), .nilsl, .nilsl, .int .i64 0]] = st S (⟨s, 0, -1⟩ : QR).o Res.zero.o := st_new _ _ _
    rw [ei, es]
    have stopE : ∀ (p e : Nat) (y : Res) (K : ResT × Int × Int × Unit → List LV → Option R) (X : Option R), (objAt (st S (⟨s, p, (e : Int)⟩ : QR).o (Res.o y)) S.length fun ty c45 => ldInt .i64 c45 (0 + 2) fun n46 => ifB (decide (n46 ≥ (0 : Int))) (objAt (st S (⟨s, p, (e : Int)⟩ : QR).o (Res.o y)) S.length fun ty c47 => ldInt .i64 c47 (0 + 2) fun n48 => K (ZT, n48, (10 : Int), ()) (st S (⟨s, p, (e : Int)⟩ : QR).o (Res.o y))) X) = K (ZT, (e : Int), 10, ()) (st S (⟨s, p, (e : Int)⟩ : QR).o (Res.o y)) := fun p e y K X => by
      rw [QR.at, QR.ld2, ifB_pos (show ((e : Int)) ≥ 0 by omega), QR.at, QR.ld2]
    have hh := ref_head (R := R) hk S s hs
    unfold readRd
    cases ht : topRd s with
    | error e =>
      rw [ht] at hh
      obtain ⟨p, y, h⟩ := hh
      dsimp only
      refine ⟨[(⟨s, p, (e : Int)⟩ : QR).o, Res.o y], fun K => ?_⟩
      rw [ifB_false, h, ref_stopped k S s p e y k (by omega)]
      dsimp only
      exact stopE p e y K _
    | ok abtp =>
      obtain ⟨⟨a, b, t⟩, p⟩ := abtp
      rw [ht] at hh
      obtain ⟨o1, o2⟩ := topRd_ok ht
      dsimp only at hh ⊢
      simp only [ifB_false, hh]
      have hF := ref_files (R := R) hk S s hs (s.size + 1) k p ⟨a, t, [], [], b⟩ o1 rfl (Nat.zero_le _) (by omega) (by omega)
      dsimp only at hF
      cases hr2 : filesRd s (s.size + 1) p [] with
      | error e =>
        rw [hr2] at hF
        obtain ⟨p', y, h⟩ := hF
        dsimp only
        refine ⟨[(⟨s, p', (e : Int)⟩ : QR).o, Res.o y], fun K => ?_⟩
        rw [h]
        dsimp only
        exact stopE p' e y K _
      | ok fq =>
        obtain ⟨fs, q⟩ := fq
        rw [hr2] at hF
        dsimp only at hF ⊢
        cases hr3 : looksRd s (s.size + 1) q [] with
        | error e =>
          rw [hr3] at hF
          obtain ⟨p', y, h⟩ := hF
          dsimp only
          refine ⟨[(⟨s, p', (e : Int)⟩ : QR).o, Res.o y], fun K => ?_⟩
          rw [h]
          dsimp only
          exact stopE p' e y K _
        | ok ls =>
          rw [hr3] at hF
          obtain ⟨p', h⟩ := hF
          dsimp only
          have ok : ResOk ⟨a, t, fs, ls, b⟩ := readRd_ok (s := s) (by unfold readRd; rw [ht]; dsimp only; rw [hr2]; dsimp only; rw [hr3]) hs
          refine ⟨[(⟨s, p', -1⟩ : QR).o, Res.o ⟨a, t, fs, ls, b⟩], fun K => ?_⟩
          rw [h]
          dsimp only
          rw [QR.at, QR.ld2, ifB_neg (show ¬ ((-1 : Int) ≥ 0) by decide), Res.at, Res.ldR]
          have hc := ref_CheckResult (R := R) hk ⟨a, t, fs, ls, b⟩ ok
          show G.smithyardref5_CheckResult.fn k ((⟨a, t, fs, ls, b⟩ : Res).tup, ()) _ _ = _
          rw [hc]
          dsimp only
          have h0 : ∀ n : Int, (n != 0) = !(n == 0) := fun n => rfl
          rw [h0]
          cases hz : checkResS ⟨a, t, fs, ls, b⟩ == 0 with
          | false => rfl
          | true =>
            rw [Bool.not_true, ifB_false, Res.at, Res.ldR]
            rfl
theorem ref_ReadResult {k : Nat} (hk : Many k) (s : ByteArray) (S : List LV) (K : ResT × Int × Int × Unit → List LV → Option R) : G.smithyardref5_ReadResult.fn k (s, ()) S K = K ((readS s).1.tup, ((readS s).2.1 : Int), (readS s).2.2, ()) S := by
  obtain ⟨G', h⟩ := ref_ReadResult0 (R := LV × List LV) hk s S
  exact popK_at (h _) (noId_read _)
theorem readS_ok (s : ByteArray) : ResOk (readS s).1 := by
  have hz : ResOk Res.zero := ⟨by decide, ⟨by decide, (fun y hy => by cases hy), (fun y hy => by cases hy)⟩, (fun y hy => by cases hy)⟩
  unfold readS
  cases hd : decide (s.size > 4000000) with
  | true => exact hz
  | false =>
    dsimp only
    cases hr : readRd s with
    | error e => exact hz
    | ok r =>
      dsimp only
      have := readRd_ok hr (by have := of_decide_eq_false hd; omega)
      split
      · exact this
      · exact hz
theorem ref_SameFilesE {k : Nat} (hk : Many k) (l l' : List File) (hl : l.length = l'.length) (hn : l.length ≤ 140737488355328) (he : ∀ i, i < l.length → (l.getD i .zero).p = (l'.getD i .zero).p ∧ (l.getD i .zero).r = (l'.getD i .zero).r ∧ (l.getD i .zero).b = (l'.getD i .zero).b) (S : List LV) (K : Bool × Unit → List LV → Option R) : G.smithyardref1_SameFiles.fn k (l.map File.lv, l'.map File.lv, ()) S K = K (true, ()) S := by
  unfold Many at hk
  unfold G.smithyardref1_SameFiles.fn
  dsimp only
  rw [List.length_map, List.length_map, ne_len, ← hl, beq_self_eq_true, Bool.not_true, ifB_false]
  refine (rounds_scan0 (fun i => (l.map File.lv, l'.map File.lv, (i : Int), ())) S l.length k (fun _ => none) (K (true, ()) S) (fun rec i hi => ?_) (fun rec => ?_) (by omega)).trans (scan_none _ _ (fun _ _ _ => rfl))
  · obtain ⟨h1, h2, h3⟩ := he i hi
    unfold G.smithyardref1_SameFiles.b0
    dsimp only
    rw [List.length_map, lt_nat, ifB_pos hi, idxL_nat (by simpa using hi), file_get _ _ hi, File.mat]
    show asStr (.str _) _ = _
    rw [asStr_str]
    show asBool (.bool _) _ = _
    rw [asBool_bool]
    show asSl 1 (File.leaf _) _ = _
    rw [File.sl, idxL_nat (by rw [List.length_map, ← hl]; exact hi), file_get _ _ (by omega), File.mat]
    show asStr (.str _) _ = _
    rw [asStr_str]
    show asBool (.bool _) _ = _
    rw [asBool_bool]
    show asSl 1 (File.leaf _) _ = _
    rw [File.sl]
    rw [ref_SameFile k (l.getD i .zero) (l'.getD i .zero) h1 h2 h3, Bool.not_true, ifB_false, wrap_succ (by omega)]
  · unfold G.smithyardref1_SameFiles.b0
    dsimp only
    rw [List.length_map, lt_nat, ifB_neg (Nat.lt_irrefl _)]
/-- Two results that are the same but for files' bytes that are nil. -/
structure SameRes (x y : Res) : Prop where
  code : x.code = y.code
  text : x.text = y.text
  looks : x.looks = y.looks
  cmd : x.cmd = y.cmd
  len : x.files.length = y.files.length
  files : ∀ i, i < x.files.length → (x.files.getD i .zero).p = (y.files.getD i .zero).p ∧ (x.files.getD i .zero).r = (y.files.getD i .zero).r ∧ (x.files.getD i .zero).b = (y.files.getD i .zero).b
theorem ref_SameResult {k : Nat} (hk : Many k) (x y : Res) (h : SameRes x y) (hn : x.files.length ≤ 140737488355328) (hm : x.looks.length ≤ 140737488355328) (S : List LV) (K : Bool × Unit → List LV → Option R) : G.smithyardref5_SameResult.fn k (x.tup, y.tup, ()) S K = K (true, ()) S := by
  unfold G.smithyardref5_SameResult.fn
  dsimp only
  rw [h.code, h.text, h.looks, h.cmd, beq_self_eq_true, ifB_true, (strEq_iff _ _).2 rfl, ifB_true, ref_SameFilesE hk x.files y.files h.len hn h.files]
  dsimp only
  rw [ifB_true, ref_Equal hk _ _ (by rw [← h.looks]; exact hm), eqLooks_refl]
  dsimp only
  rw [ifB_true, beq_self_eq_true]
theorem SameRes.refl (x : Res) : SameRes x x := ⟨rfl, rfl, rfl, rfl, rfl, fun _ _ => ⟨rfl, rfl, rfl⟩⟩
theorem readS_looks (s : ByteArray) : (readS s).1.looks.length ≤ 4000000 := by
  unfold readS
  cases hd : decide (s.size > 4000000) with
  | true => exact Nat.zero_le _
  | false =>
    have hs : s.size ≤ 4000000 := by have := of_decide_eq_false hd; omega
    dsimp only
    cases hr : readRd s with
    | error e => exact Nat.zero_le _
    | ok r =>
      dsimp only
      split
      · unfold readRd at hr
        split at hr
        · cases hr
        · rename_i a b t p ht
          obtain ⟨h1, h2⟩ := topRd_ok ht
          split at hr
          · cases hr
          · rename_i fs q hf
            obtain ⟨f1, f2, f3, f4⟩ := filesRd_ok s _ _ _ _ _ hf h1 (Nat.zero_le _) (fun f hf => by cases hf)
            split at hr
            · cases hr
            · rename_i ls hl
              obtain ⟨g1, g2⟩ := looksRd_ok s _ _ _ _ hl f2 (Nat.zero_le _) (fun f hf => by cases hf)
              cases hr
              show ls.length ≤ _
              omega
      · exact Nat.zero_le _
theorem law3 {k : Nat} (hk : Many k) (s : ByteArray) (S : List LV) (K : Bool × Unit → List LV → Option R) :
    G.smithyardlaw5_ResultsReadMatchSpec.fn k (s, ()) S K = K (true, ()) S := by
  unfold G.smithyardlaw5_ResultsReadMatchSpec.fn
  dsimp only
  rw [prog_ReadResult hk]
  dsimp only
  rw [ref_ReadResult hk]
  dsimp only
  show G.smithyardref5_SameResult.fn k ((readS s).1.tup, (readS s).1.tup, ()) S _ = _
  rw [ref_SameResult hk _ _ (SameRes.refl _) (readS_ok s).f.n (Nat.le_trans (readS_looks s) (by decide))]
  dsimp only
  rw [ifB_true, beq_self_eq_true, ifB_true, beq_self_eq_true, ifB_true, prog_awake hk]
end
end Go.Lm
