/- A result's text and what is read of it: each is the other; the law ResultsComeBack's function answers true. -/
import Derived.Test.YtnapepffpbbkoaaGreatDoorLmN10
set_option maxRecDepth 100000
namespace Go.Lm
theorem filesT_list (l : List File) (h : ByteArray) : ∀ i, i ≤ l.length → toL (filesT l h i) = toL h ++ ((l.take i).map fileT).flatten
  | 0, _ => by simp [filesT]
  | i + 1, hi => by
    have e : l.take (i + 1) = l.take i ++ [l.getD i .zero] := by
      rw [List.take_succ_eq_append_getElem (by omega), List.getD_eq_getElem?_getD, List.getElem?_eq_getElem (by omega)]; rfl
    simp only [filesT]
    rw [toL_app, filesT_list l h i (by omega), e, List.map_append, List.flatten_append, toL_app, toL_app, List.append_assoc]
    simp [fileT, bs_toL]
theorem looksT_list (l : List Look) (h : ByteArray) : ∀ i, i ≤ l.length → toL (looksT l h i) = toL h ++ ((l.take i).map lookT).flatten
  | 0, _ => by simp [looksT]
  | i + 1, hi => by
    have e : l.take (i + 1) = l.take i ++ [l.getD i .zero] := by
      rw [List.take_succ_eq_append_getElem (by omega), List.getD_eq_getElem?_getD, List.getElem?_eq_getElem (by omega)]; rfl
    simp only [looksT]
    rw [toL_app, looksT_list l h i (by omega), e, List.map_append, List.flatten_append, List.append_assoc]
    simp [lookT]
def textL (x : Res) : Bs := toL (headS x) ++ (x.files.map fileT).flatten ++ (x.looks.map lookT).flatten
theorem textS_list (x : Res) : toL (textS x) = textL x := by
  unfold textS textL
  rw [looksT_list _ _ _ (Nat.le_refl _), filesT_list _ _ _ (Nat.le_refl _), List.take_of_length_le (Nat.le_refl _), List.take_of_length_le (Nat.le_refl _)]
theorem head_list (x : Res) : toL (headS x) = lineOf [bs [99, 111, 100, 101], itoaS x.code, itoaS x.cmd] ++ 10 :: (lineOf [bs [116, 101, 120, 116], itoaS (x.text.size : Int)] ++ 10 :: toL x.text) := by
  unfold headS lineOf
  simp only [toL_app, List.map_cons, List.map_nil, joinL, bs_toL]
  simp
/-- What a right result's parts are. -/
structure Right (x : Res) : Prop where
  code : 0 ≤ x.code ∧ x.code < 1000000000
  cmd : 0 ≤ x.cmd ∧ x.cmd < 1000000000
  text : x.text.size ≤ 100000
  files : ∀ f ∈ x.files, isPathS f.p = true ∧ f.b.size ≤ 100000
  looks : ∀ l ∈ x.looks, isPathS l.p = true ∧ (l.d = bs [] ∨ isDigestS l.d = true)
theorem right_of {x : Res} (h : checkResS x = 0) : Right x := by
  have r := res_right h
  unfold checkResS at h
  split at h
  · cases h
  · split at h
    · cases h
    · split at h
      · cases h
      · unfold tailS at h
        split at h
        · rename_i h3; rw [h] at h3; cases h3
        · rename_i h3
          have hf : checkFilesS x.files = 0 := eq_of_beq h3
          split at h
          · cases h
          · refine ⟨⟨r.code.1, by have := r.code.2; omega⟩, ⟨r.cmd.1, by have := r.cmd.2; omega⟩, r.text, fun f hfm => ⟨?_, (r.files.2 f hfm).2⟩, fun y hy => ?_⟩
            · unfold checkFilesS at hf
              split at hf
              · cases hf
              · obtain ⟨i, hi, rfl⟩ := mem_getD (z := File.zero) hfm
                have h5 := scan_zero fileS_ne _ _ hf i (Nat.zero_le _) (by omega)
                unfold fileS at h5
                split at h5
                · cases h5
                · rename_i h6; simpa using h6
            · unfold checkLooksS at h
              split at h
              · cases h
              · obtain ⟨i, hi, rfl⟩ := mem_getD (z := Look.zero) hy
                have h5 := scan_zero lookS_ne _ _ h i (Nat.zero_le _) (by omega)
                unfold lookS at h5
                dsimp only at h5
                split at h5
                · cases h5
                · rename_i h1
                  split at h5
                  · cases h5
                  · rename_i h2
                    refine ⟨by simpa using h1, ?_⟩
                    rw [Bool.or_eq_false_iff] at h2
                    cases he : strEq (x.looks.getD i .zero).d (bs []) with
                    | true => exact .inl ((strEq_iff _ _).1 he)
                    | false =>
                      have h3 := h2.1
                      change (!(strEq (x.looks.getD i .zero).d (bs [])) && !(isDigestS (x.looks.getD i .zero).d)) = false at h3
                      rw [he] at h3
                      exact .inr (by simpa using h3)
/-! ### what was written is read -/
theorem topRd_at {s : ByteArray} {x : Res} (hr : Right x) {r : Bs} (h : toL s = toL (headS x) ++ r) : topRd s = .ok ((x.code, x.cmd, x.text), (headS x).size) ∧ (headS x).size ≤ s.size := by
  obtain ⟨a, ha⟩ : ∃ a : Nat, x.code = a := ⟨x.code.toNat, by have := hr.code.1; omega⟩
  obtain ⟨b, hb⟩ : ∃ b : Nat, x.cmd = b := ⟨x.cmd.toNat, by have := hr.cmd.1; omega⟩
  have hca := hr.code.2
  have hcb := hr.cmd.2
  have hct := hr.text
  obtain ⟨a1, a2⟩ := itoa_num a (by omega)
  obtain ⟨b1, b2⟩ := itoa_num b (by omega)
  obtain ⟨c1, c2⟩ := itoa_num x.text.size (by omega)
  have h0 : (toL s).drop 0 = lineOf [bs [99, 111, 100, 101], itoaS x.code, itoaS x.cmd] ++ 10 :: (lineOf [bs [116, 101, 120, 116], itoaS (x.text.size : Int)] ++ 10 :: (toL x.text ++ r)) := by
    rw [List.drop_zero, h, head_list]
    simp
  have hws : ∀ w ∈ [bs [99, 111, 100, 101], itoaS x.code, itoaS x.cmd], Word w := fun w hw => by
    simp only [List.mem_cons, List.not_mem_nil, or_false] at hw
    rcases hw with rfl | rfl | rfl
    · exact ⟨by decide, by decide, by decide⟩
    · rw [ha]; exact digits_word _
    · rw [hb]; exact digits_word _
  have hws2 : ∀ w ∈ [bs [116, 101, 120, 116], itoaS (x.text.size : Int)], Word w := fun w hw => by
    simp only [List.mem_cons, List.not_mem_nil, or_false] at hw
    rcases hw with rfl | rfl
    · exact ⟨by decide, by decide, by decide⟩
    · exact digits_word _
  obtain ⟨h1, h2⟩ := lineS_at (by simp) hws h0
  obtain ⟨h3, h4⟩ := lineS_at (by simp) hws2 h2
  have hw := wordsS_of h1
  have hw2 := wordsS_of h3
  have hz := (lineS_lt h3).2
  have e3 : [itoaS x.code, itoaS x.cmd].length + 1 = 3 := rfl
  have e2 : [itoaS (x.text.size : Int)].length + 1 = 2 := rfl
  rw [e3] at hw
  rw [e2] at hw2
  have ht := take_at h4 hz
  have hsz := drop_size h4 hz
  have el : (headS x).size = 0 + (lineOf [bs [99, 111, 100, 101], itoaS x.code, itoaS x.cmd]).length + 1 + (lineOf [bs [116, 101, 120, 116], itoaS (x.text.size : Int)]).length + 1 + x.text.size := by
    rw [← toL_len, head_list]
    simp only [List.length_append, List.length_cons, toL_len]
    omega
  rw [toL_len] at hsz
  refine ⟨?_, by omega⟩
  unfold topRd
  rw [hw]
  dsimp only
  rw [ha, hb, a1, b1, Bool.and_self]
  dsimp only
  rw [← ha, ← hb, hw2]
  dsimp only
  rw [c1, c2, ht]
  rw [ha, hb] at *
  rw [a2, b2, el]
theorem filesRd_at {s : ByteArray} : ∀ (l : List File) (n p : Nat) (acc : List File) (r : Bs), p ≤ s.size → (∀ f ∈ l, isPathS f.p = true ∧ f.b.size ≤ 100000) → (toL s).drop p = (l.map fileT).flatten ++ r → prefixS s (p + (l.map fileT).flatten.length) = false → l.length < n →
    filesRd s n p acc = .ok (acc ++ l.map File.cp, p + (l.map fileT).flatten.length)
  | [], n, p, acc, r, hp, _, _, hpr, hn => by
    obtain ⟨n, rfl⟩ : ∃ m, n = m + 1 := ⟨n - 1, by simp at hn; omega⟩
    unfold filesRd
    simp only [List.map_nil, List.flatten_nil, List.length_nil, Nat.add_zero] at hpr ⊢
    rw [hpr]
    simp
  | f :: l, n, p, acc, r, hp, hr, h, hpr, hn => by
    obtain ⟨n, rfl⟩ : ∃ m, n = m + 1 := ⟨n - 1, by simp at hn; omega⟩
    simp only [List.length_cons] at hn
    simp only [List.map_cons, List.flatten_cons, List.append_assoc] at h
    obtain ⟨h1, h2⟩ := hr f (by simp)
    obtain ⟨h3, h4⟩ := fileRd_at hp h1 h2 h
    unfold filesRd
    rw [h4, h3]
    dsimp only
    have h5 := drop_more h
    have h6 := drop_size h hp
    simp only [List.map_cons, List.flatten_cons, List.length_append] at hpr ⊢
    rw [filesRd_at l n (p + (fileT f).length) (acc ++ [f.cp]) r (by omega) (fun g hg => hr g (by simp [hg])) h5 (by rw [Nat.add_assoc]; exact hpr) (by omega)]
    rw [List.append_assoc, Nat.add_assoc]; rfl
theorem looksRd_at {s : ByteArray} : ∀ (l : List Look) (n p : Nat) (acc : List Look), p ≤ s.size → (∀ f ∈ l, isPathS f.p = true ∧ (f.d = bs [] ∨ isDigestS f.d = true)) → (toL s).drop p = (l.map lookT).flatten → l.length < n →
    looksRd s n p acc = .ok (acc ++ l)
  | [], n, p, acc, hp, _, h, hn => by
    obtain ⟨n, rfl⟩ : ∃ m, n = m + 1 := ⟨n - 1, by simp at hn; omega⟩
    unfold looksRd
    have : ¬ p < s.size := fun hlt => by
      have := congrArg List.length h
      simp only [List.length_drop, toL_len, List.map_nil, List.flatten_nil, List.length_nil] at this
      omega
    rw [decide_eq_false this]
    simp
  | f :: l, n, p, acc, hp, hr, h, hn => by
    obtain ⟨n, rfl⟩ : ∃ m, n = m + 1 := ⟨n - 1, by simp at hn; omega⟩
    simp only [List.length_cons] at hn
    simp only [List.map_cons, List.flatten_cons] at h
    obtain ⟨h1, h2⟩ := hr f (by simp)
    obtain ⟨h3, h4, h7⟩ := lookRd_at hp h1 h2 h
    unfold looksRd
    rw [decide_eq_true h7, h3]
    dsimp only
    have h5 := drop_more h
    have h6 := drop_size h hp
    rw [looksRd_at l n (p + (lookT f).length) (acc ++ [f]) (by omega) (fun g hg => hr g (by simp [hg])) h5 (by omega), List.append_assoc]
    rfl
theorem looks_prefix {s : ByteArray} {p : Nat} {l : List Look} (hp : p ≤ s.size) (hr : ∀ f ∈ l, isPathS f.p = true ∧ (f.d = bs [] ∨ isDigestS f.d = true)) (h : (toL s).drop p = (l.map lookT).flatten) : prefixS s p = false := by
  cases l with
  | nil =>
    rw [← Bool.not_eq_true, prefix_iff]
    rintro ⟨r, e⟩
    rw [h] at e
    simp at e
  | cons f l =>
    simp only [List.map_cons, List.flatten_cons] at h
    obtain ⟨h1, h2⟩ := hr f (by simp)
    exact (lookRd_at hp h1 h2 h).2.1
theorem flat_len {α : Type} (f : α → Bs) (hf : ∀ a, 1 ≤ (f a).length) : ∀ l : List α, l.length ≤ (l.map f).flatten.length
  | [] => Nat.zero_le _
  | a :: l => by
    have := flat_len f hf l
    have := hf a
    simp only [List.map_cons, List.flatten_cons, List.length_append, List.length_cons]
    omega
theorem fileT_pos (f : File) : 1 ≤ (fileT f).length := by
  unfold fileT
  simp only [List.length_append, List.length_cons, List.length_nil]
  omega
theorem lookT_pos (l : Look) : 1 ≤ (lookT l).length := by unfold lookT; rw [lookLine_list]; simp
theorem readRd_at {x : Res} (hr : Right x) : readRd (textS x) = .ok x.cp := by
  have hl := textS_list x
  unfold textL at hl
  rw [List.append_assoc] at hl
  obtain ⟨h1, h2⟩ := topRd_at hr hl
  have h3 : (toL (textS x)).drop (headS x).size = (x.files.map fileT).flatten ++ (x.looks.map lookT).flatten := by
    rw [hl, ← toL_len (headS x)]; simp
  have h4 := drop_more h3
  have h5 := drop_size h3 h2
  have f1 := flat_len fileT fileT_pos x.files
  have f2 := flat_len lookT lookT_pos x.looks
  unfold readRd
  rw [h1]
  dsimp only
  rw [filesRd_at x.files _ _ [] _ h2 hr.files h3 (looks_prefix (by omega) hr.looks h4) (by omega)]
  dsimp only
  rw [looksRd_at x.looks _ _ [] (by omega) hr.looks h4 (by omega)]
  rfl
/-! ### what was read is written -/
theorem takeS_back {s b : ByteArray} {q p : Nat} {n : Int} (hn : 0 ≤ n) (hq : q ≤ s.size) (h : takeS s q n = .ok (b, p)) : (toL s).drop q = toL b ++ (toL s).drop p ∧ (b.size : Int) = n := by
  unfold takeS at h
  cases hd : decide ((s.size : Int) - q < n) with
  | true => rw [hd] at h; cases h
  | false =>
    rw [hd] at h
    have := of_decide_eq_false hd
    simp only [Except.ok.injEq, Prod.mk.injEq] at h
    obtain ⟨rfl, rfl⟩ := h
    constructor
    · rw [toL_extract, Nat.add_sub_cancel_left, ← List.drop_drop]
      exact (List.take_append_drop _ _).symm
    · rw [ByteArray.size_extract]; omega
theorem fileRd_back {s : ByteArray} {p q : Nat} {f : File} (h : fileRd s p = .ok (f, q)) : (toL s).drop p = fileT f ++ (toL s).drop q := by
  unfold fileRd at h
  split at h
  · rename_i pa r n q0 hw
    obtain ⟨l1, l2, _, _⟩ := words_lt hw
    obtain ⟨w1, _⟩ := wordsS_some hw
    obtain ⟨_, _, _, w2⟩ := lineS_some w1
    split at h
    · rename_i hrn
      rw [Bool.and_eq_true] at hrn
      split at h
      · cases h
      · rename_i b e ht
        obtain ⟨t1, t2⟩ := takeS_back (numV_nonneg n) l2 ht
        split at h
        · rename_i hb
          simp only [Except.ok.injEq, Prod.mk.injEq] at h
          obtain ⟨rfl, rfl⟩ := h
          have he : e < s.size := by
            rcases Nat.lt_or_ge e s.size with h1 | h1
            · exact h1
            · unfold bt at hb
              rw [Int.toNat_natCast, dif_neg (by omega)] at hb
              simp at hb
          have h10 : (toL s).drop e = 10 :: (toL s).drop (e + 1) := by
            have hlt : e < (toL s).length := by rw [toL_len]; exact he
            rw [List.drop_eq_getElem_cons hlt]
            congr 1
            have hd := List.drop_eq_getElem_cons hlt
            have := bt_drop hd
            rw [this] at hb
            have hb := beq_iff_eq.1 hb
            apply UInt8.toNat_inj.1
            have e10 : (10 : UInt8).toNat = 10 := rfl
            omega
          unfold fileT
          rw [fileLine_list]
          dsimp only
          rw [run_sign hrn.1, t2, num_itoa hrn.2, w2, t1, h10]
          simp
        · cases h
    · cases h
  · cases h
theorem lookRd_back {s : ByteArray} {p q : Nat} {l : Look} (h : lookRd s p = .ok (l, q)) : (toL s).drop p = lookT l ++ (toL s).drop q := by
  unfold lookRd at h
  split at h
  · rename_i pa d r q0 hw
    obtain ⟨w1, _⟩ := wordsS_some hw
    obtain ⟨_, w3, _, w2⟩ := lineS_some w1
    split at h
    · rename_i hr
      simp only [Except.ok.injEq, Prod.mk.injEq] at h
      obtain ⟨rfl, rfl⟩ := h
      have hdw := (w3 d (by simp)).1
      unfold lookT
      rw [lookLine_list]
      dsimp only
      have hd : digS (match strEq d (bs [45]) with | true => bs [] | false => d) = d := by
        cases h1 : strEq d (bs [45]) with
        | true =>
          rw [(strEq_iff _ _).1 h1]
          decide +kernel
        | false =>
          dsimp only
          unfold digS
          have : strEq d (bs []) = false := by
            rw [← Bool.not_eq_true, strEq_iff]
            intro e; rw [e] at hdw; exact hdw rfl
          rw [this]
      refine w2.trans ?_
      have e1 : ∀ d', digS d' = d → lineOf [bs [108, 111, 111, 107], pa, d, r] ++ 10 :: (toL s).drop q0 = lineOf [bs [108, 111, 111, 107], pa, digS d', signS (strEq r (bs [120]))] ++ [10] ++ (toL s).drop q0 := fun d' h => by
        rw [h, run_sign hr]; simp
      exact e1 _ hd
    · cases h
  · cases h
theorem filesRd_back {s : ByteArray} : ∀ (n p : Nat) (acc fs : List File) (q : Nat), filesRd s n p acc = .ok (fs, q) → ∃ l, fs = acc ++ l ∧ (toL s).drop p = (l.map fileT).flatten ++ (toL s).drop q
  | 0, p, acc, fs, q, h => by cases h
  | n + 1, p, acc, fs, q, h => by
    unfold filesRd at h
    split at h
    · simp only [Except.ok.injEq, Prod.mk.injEq] at h
      obtain ⟨rfl, rfl⟩ := h
      exact ⟨[], by simp, by simp⟩
    · split at h
      · cases h
      · rename_i f q1 hf
        obtain ⟨l, h1, h2⟩ := filesRd_back n q1 _ fs q h
        refine ⟨f :: l, by rw [h1]; simp, ?_⟩
        rw [fileRd_back hf, h2]
        simp
theorem looksRd_back {s : ByteArray} : ∀ (n p : Nat) (acc ls : List Look), p ≤ s.size → looksRd s n p acc = .ok ls → ∃ l, ls = acc ++ l ∧ (toL s).drop p = (l.map lookT).flatten
  | 0, p, acc, fs, _, h => by cases h
  | n + 1, p, acc, fs, hp, h => by
    unfold looksRd at h
    split at h
    · rename_i hlt
      cases h
      have := of_decide_eq_false hlt
      exact ⟨[], by simp, by rw [List.drop_eq_nil_of_le (by rw [toL_len]; omega)]; rfl⟩
    · split at h
      · cases h
      · rename_i f q1 hf
        obtain ⟨l, h1, h2⟩ := looksRd_back n q1 _ fs (lookRd_lt hf).2.1 h
        refine ⟨f :: l, by rw [h1]; simp, ?_⟩
        rw [lookRd_back hf, h2]
        simp
theorem topRd_back {s t : ByteArray} {a b : Int} {p : Nat} (h : topRd s = .ok ((a, b, t), p)) (fs : List File) (ls : List Look) : toL s = toL (headS ⟨a, t, fs, ls, b⟩) ++ (toL s).drop p := by
  unfold topRd at h
  split at h
  · rename_i wa wb q hw
    obtain ⟨w1, _⟩ := wordsS_some hw
    obtain ⟨_, _, _, w2⟩ := lineS_some w1
    split at h
    · rename_i hab
      rw [Bool.and_eq_true] at hab
      split at h
      · rename_i c q2 hw2
        obtain ⟨l1, l2, _, l4⟩ := words_lt hw2
        obtain ⟨w3, _⟩ := wordsS_some hw2
        obtain ⟨_, _, _, w4⟩ := lineS_some w3
        split at h
        · rename_i hc
          split at h
          · cases h
          · rename_i t e ht
            obtain ⟨t1, t2⟩ := takeS_back (numV_nonneg c) l2 ht
            simp only [Except.ok.injEq, Prod.mk.injEq] at h
            obtain ⟨⟨rfl, rfl, rfl⟩, rfl⟩ := h
            rw [head_list]
            dsimp only
            rw [num_itoa hab.1, num_itoa hab.2, t2, num_itoa hc]
            rw [List.drop_zero] at w2
            refine w2.trans ?_
            rw [w4, t1]
            simp
        · cases h
      · cases h
    · cases h
  · cases h
theorem readRd_back {s : ByteArray} {x : Res} (h : readRd s = .ok x) : textS x = s := by
  apply toL_inj
  rw [textS_list]
  unfold textL
  unfold readRd at h
  split at h
  · cases h
  · rename_i a b t p ht
    obtain ⟨h1, h2⟩ := topRd_ok ht
    split at h
    · cases h
    · rename_i fs q hf
      obtain ⟨f1, f2, f3, f4⟩ := filesRd_ok s _ _ _ _ _ hf h1 (Nat.zero_le _) (fun f hf => by cases hf)
      split at h
      · cases h
      · rename_i ls hl
        cases h
        obtain ⟨l1, e1, e2⟩ := filesRd_back _ _ _ _ _ hf
        obtain ⟨l2, e3, e4⟩ := looksRd_back _ _ _ _ f2 hl
        rw [List.nil_append] at e1 e3
        subst e1; subst e3
        rw [topRd_back ht fs ls, e2, e4]
        simp
theorem readS_of_text {x : Res} {s : ByteArray} (h : resTextS x = (s, 0)) : readS s = (x.cp, 0, 0) := by
  unfold resTextS at h
  split at h
  · rename_i hc
    have := (Prod.mk.inj h).2
    rw [this] at hc; cases hc
  · rename_i hc
    have hc : checkResS x = 0 := eq_of_beq hc
    split at h
    · cases (Prod.mk.inj h).2
    · rename_i hd
      have := (Prod.mk.inj h).1
      subst this
      unfold readS
      rw [hd, readRd_at (right_of hc)]
      dsimp only
      rw [cp_checkRes, hc]
      rfl
theorem text_of_read {s : ByteArray} {x : Res} {n : Nat} (h : readS s = (x, n, 0)) : resTextS x = (s, 0) := by
  unfold readS at h
  split at h
  · cases (Prod.mk.inj (Prod.mk.inj h).2).2
  · rename_i hd
    split at h
    · cases (Prod.mk.inj (Prod.mk.inj h).2).2
    · rename_i y hy
      split at h
      · rename_i hc
        have := (Prod.mk.inj h).1
        subst this
        unfold resTextS
        rw [hc, readRd_back hy, hd]
      · rename_i hc
        have := (Prod.mk.inj (Prod.mk.inj h).2).2
        rw [this] at hc; cases hc
theorem read_fail {s : ByteArray} (h : (readS s).2.2 ≠ 0) : (readS s).1 = Res.zero := by
  unfold readS at h ⊢
  split
  · rfl
  · rename_i hd
    rw [hd] at h
    dsimp only at h
    split
    · rfl
    · rename_i y hy
      rw [hy] at h
      dsimp only at h
      split
      · rename_i hc
        rw [hc] at h
        exact absurd rfl h
      · rfl
end Go.Lm
