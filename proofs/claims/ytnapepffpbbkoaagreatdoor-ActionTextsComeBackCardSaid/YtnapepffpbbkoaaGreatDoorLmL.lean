/- Texts as lists of bytes: lines, words, numbers. No program. -/
import Derived.Lib.SplitLaws
import Derived.Lib.IndexLaws
import Derived.Lib.ItoaNum
import Derived.Lib.AtoiAll
import Derived.Lib.AtoiErr
import Derived.Test.YtnapepffpbbkoaaGreatDoorLmS
namespace Go.Lm
abbrev Bs := List UInt8
def cutL (c : UInt8) : Bs → Option (Bs × Bs)
  | [] => none
  | b :: t => match decide (b = c) with
    | true => some ([], t)
    | false => (cutL c t).map fun x => (b :: x.1, x.2)
theorem cutL_some {c : UInt8} : ∀ {l a r : Bs}, cutL c l = some (a, r) → l = a ++ c :: r ∧ c ∉ a
  | [], a, r, h => by cases h
  | b :: t, a, r, h => by
    simp only [cutL] at h
    by_cases e : b = c
    · simp only [e, decide_true] at h
      cases h
      exact ⟨by simp [e], by simp⟩
    · simp only [e, decide_false, Option.map_eq_some_iff] at h
      obtain ⟨⟨a', r'⟩, h1, h2⟩ := h
      cases h2
      obtain ⟨h3, h4⟩ := cutL_some h1
      refine ⟨by simp [h3], ?_⟩
      simp only [List.mem_cons, not_or]
      exact ⟨fun x => e x.symm, h4⟩
theorem cutL_at {c : UInt8} : ∀ {a : Bs} (r : Bs), c ∉ a → cutL c (a ++ c :: r) = some (a, r)
  | [], r, _ => by simp [cutL]
  | b :: t, r, h => by
    simp only [List.mem_cons, not_or] at h
    have e : ¬ b = c := fun x => h.1 x.symm
    simp only [List.cons_append, cutL, e, decide_false, cutL_at r h.2, Option.map_some]
theorem cutL_none {c : UInt8} : ∀ {l : Bs}, cutL c l = none → c ∉ l
  | [], _ => by simp
  | b :: t, h => by
    simp only [cutL] at h
    by_cases e : b = c
    · simp [e] at h
    · simp only [e, decide_false, Option.map_eq_none_iff] at h
      simp only [List.mem_cons, not_or]
      exact ⟨fun x => e x.symm, cutL_none h⟩
theorem cutL_miss {c : UInt8} : ∀ {l : Bs}, c ∉ l → cutL c l = none
  | [], _ => rfl
  | b :: t, h => by
    simp only [List.mem_cons, not_or] at h
    have e : ¬ b = c := fun x => h.1 x.symm
    simp only [cutL, e, decide_false, cutL_miss h.2, Option.map_none]
theorem cutL_len {c : UInt8} {l a r : Bs} (h : cutL c l = some (a, r)) : l.length = a.length + r.length + 1 := by
  rw [(cutL_some h).1]; simp; omega
theorem cutL_index (c : UInt8) : ∀ (l : Bs), Lib.indexByte l c = match cutL c l with | some (a, _) => (a.length : Int) | none => -1
  | [] => rfl
  | b :: t => by
    simp only [cutL]
    by_cases e : b = c
    · simp [Lib.indexByte, e]
    · have e2 : (b == c) = false := by simpa using e
      simp only [Lib.indexByte, e2, e, decide_false, cutL_index c t]
      cases h : cutL c t with
      | none => simp
      | some x =>
        have : ((x.1.length : Int) == -1) = false := by rw [beq_eq_false_iff_ne]; omega
        simp [this]
def splitL (c : UInt8) : Bs → List Bs
  | [] => [[]]
  | b :: t => match decide (b = c) with
    | true => [] :: splitL c t
    | false => match splitL c t with
      | w :: ws => (b :: w) :: ws
      | [] => [[b]]
theorem splitL_cut (c : UInt8) : ∀ (l : Bs), splitL c l = match cutL c l with | some (a, r) => a :: splitL c r | none => [l]
  | [] => rfl
  | b :: t => by
    simp only [splitL, cutL]
    by_cases e : b = c
    · simp [e]
    · simp only [e, decide_false]
      rw [splitL_cut c t]
      cases h : cutL c t with
      | none => rfl
      | some x => rfl
theorem splitL_ne (c : UInt8) (l : Bs) : splitL c l ≠ [] := by
  rw [splitL_cut]
  cases cutL c l with
  | none => simp
  | some x => simp
def joinL (c : UInt8) : List Bs → Bs
  | [] => []
  | [w] => w
  | w :: u :: ws => w ++ c :: joinL c (u :: ws)
theorem joinL_cons (c : UInt8) (w : Bs) {ws : List Bs} (h : ws ≠ []) : joinL c (w :: ws) = w ++ c :: joinL c ws := by
  cases ws with
  | nil => exact absurd rfl h
  | cons u ws => rfl
theorem join_split (c : UInt8) : ∀ (n : Nat) (l : Bs), l.length ≤ n → joinL c (splitL c l) = l
  | 0, l, h => by
    have : l = [] := List.eq_nil_of_length_eq_zero (by omega)
    subst this; rfl
  | n + 1, l, h => by
    rw [splitL_cut]
    cases hc : cutL c l with
    | none => rfl
    | some x =>
      obtain ⟨a, r⟩ := x
      have h1 := cutL_len hc
      simp only
      rw [joinL_cons c a (splitL_ne c r), join_split c n r (by omega), ← (cutL_some hc).1]
theorem split_join (c : UInt8) : ∀ (ws : List Bs), ws ≠ [] → (∀ w ∈ ws, c ∉ w) → splitL c (joinL c ws) = ws
  | [], h, _ => absurd rfl h
  | [w], _, h => by
    show splitL c w = [w]
    rw [splitL_cut, cutL_miss (h w (by simp))]
  | w :: u :: ws, _, h => by
    rw [joinL_cons c w (by simp), splitL_cut, cutL_at _ (h w (by simp))]
    simp only
    rw [split_join c (u :: ws) (by simp) (fun x hx => h x (by simp at hx ⊢; exact .inr hx))]
theorem split_mem (c : UInt8) : ∀ (n : Nat) (l : Bs), l.length ≤ n → ∀ w ∈ splitL c l, c ∉ w ∧ ∀ b ∈ w, b ∈ l
  | 0, l, h, w, hw => by
    have : l = [] := List.eq_nil_of_length_eq_zero (by omega)
    subst this
    have : w = [] := by simpa [splitL] using hw
    subst this; simp
  | n + 1, l, h, w, hw => by
    rw [splitL_cut] at hw
    cases hc : cutL c l with
    | none =>
      rw [hc] at hw
      have : w = l := by simpa using hw
      subst this
      exact ⟨cutL_none hc, fun b hb => hb⟩
    | some x =>
      obtain ⟨a, r⟩ := x
      rw [hc] at hw
      have h1 := cutL_len hc
      obtain ⟨h2, h3⟩ := cutL_some hc
      simp only [List.mem_cons] at hw
      rcases hw with rfl | hw
      · exact ⟨h3, fun b hb => by rw [h2]; simp [hb]⟩
      · obtain ⟨h4, h5⟩ := split_mem c n r (by omega) w hw
        exact ⟨h4, fun b hb => by rw [h2]; simp [h5 b hb]⟩
theorem join_len (c : UInt8) : ∀ (ws : List Bs), ∀ w ∈ ws, w.length ≤ (joinL c ws).length
  | [], w, h => by cases h
  | [u], w, h => by
    have : w = u := by simpa using h
    subst this; exact Nat.le_refl _
  | u :: v :: ws, w, h => by
    rw [joinL_cons c u (by simp)]
    rcases List.mem_cons.1 h with rfl | h
    · simp
    · have := join_len c (v :: ws) w h
      simp; omega
theorem joinL_not (c d : UInt8) (hcd : d ≠ c) : ∀ (ws : List Bs), (∀ w ∈ ws, d ∉ w) → d ∉ joinL c ws
  | [], _ => by simp [joinL]
  | [w], h => h w (by simp)
  | w :: u :: ws, h => by
    rw [joinL_cons c w (by simp)]
    have := joinL_not c d hcd (u :: ws) (fun x hx => h x (by simp at hx ⊢; exact .inr hx))
    simp only [List.mem_append, List.mem_cons, not_or]
    exact ⟨h w (by simp), hcd, this⟩
theorem splitK_cut (c : UInt8) : ∀ (n : Nat) (l : Bs), Lib.count l [c] = n → Lib.splitK [c] 0 n l = splitL c l
  | 0, l, h => by
    rw [splitL_cut, cutL_miss]
    · rfl
    · rw [Lib.count_one] at h
      exact List.count_eq_zero.1 h
  | n + 1, l, h => by
    rw [splitL_cut]
    have hix : Lib.index l [c] = match cutL c l with | some (a, _) => (a.length : Int) | none => -1 := by rw [Lib.index_one]; exact cutL_index c l
    cases hc : cutL c l with
    | none =>
      rw [hc] at hix
      rw [Lib.count_miss hix] at h
      omega
    | some x =>
      obtain ⟨a, r⟩ := x
      rw [hc] at hix
      simp only at hix
      obtain ⟨h1, h2⟩ := cutL_some hc
      have e : (Lib.index l [c] == -1) = false := by rw [hix, beq_eq_false_iff_ne]; omega
      have h3 := Lib.count_hit (s := l) (sub := [c]) (by simp) hix
      have e2 : l.drop (a.length + [c].length) = r := by rw [h1]; simp [List.drop_append]
      rw [e2] at h3
      unfold Lib.splitK
      rw [e, hix]
      simp only [Int.toNat_natCast, Nat.add_zero]
      rw [e2, splitK_cut c n r (by omega)]
      have e3 : l.take a.length = a := by rw [h1]; simp
      rw [e3]
      simp
/-! ### numbers -/
def digB (b : UInt8) : Bool := decide (48 ≤ b.toNat) && decide (b.toNat ≤ 57)
theorem digB_val {b : UInt8} (h : digB b = true) : Lib.digitVal b = some (b.toNat - 48) := by
  unfold digB at h
  simp only [Bool.and_eq_true, decide_eq_true_eq] at h
  unfold Lib.digitVal
  rw [if_pos h]
theorem digB_none {b : UInt8} (h : digB b = false) : Lib.digitVal b = none := by
  unfold Lib.digitVal
  rw [if_neg]
  intro h2
  unfold digB at h
  simp [h2.1, h2.2] at h
def valL (l : Bs) : Nat := (Lib.decFrom 0 l).getD 0
theorem decFrom_snoc (b : UInt8) : ∀ (l : Bs) (acc : Nat), Lib.decFrom acc (l ++ [b]) = (Lib.decFrom acc l).bind fun m => (Lib.digitVal b).map fun d => m * 10 + d
  | [], acc => by
    simp only [List.nil_append, Lib.decFrom, Option.bind_some]
    cases Lib.digitVal b <;> rfl
  | a :: l, acc => by
    simp only [List.cons_append, Lib.decFrom]
    cases Lib.digitVal a with
    | none => rfl
    | some d => exact decFrom_snoc b l _
theorem decFrom_all : ∀ (l : Bs) (acc : Nat), l.all digB = true → ∃ n, Lib.decFrom acc l = some n
  | [], acc, _ => ⟨acc, rfl⟩
  | a :: l, acc, h => by
    simp only [List.all_cons, Bool.and_eq_true] at h
    simp only [Lib.decFrom, digB_val h.1]
    exact decFrom_all l _ h.2
theorem decFrom_val {l : Bs} (h : l.all digB = true) : Lib.decFrom 0 l = some (valL l) := by
  obtain ⟨n, hn⟩ := decFrom_all l 0 h
  unfold valL
  rw [hn]; rfl
theorem valL_snoc {l : Bs} {b : UInt8} (h : l.all digB = true) (hb : digB b = true) : valL (l ++ [b]) = valL l * 10 + (b.toNat - 48) := by
  unfold valL
  rw [decFrom_snoc, decFrom_val h, digB_val hb]
  rfl
/-- Digits, at least one and at most so many, the first one no needless zero. -/
def isNumL (l : Bs) (d : Nat) : Bool := decide (1 ≤ l.length) && (decide (l.length ≤ d) && (l.all digB && (decide (l.head? ≠ some 48) || decide (l.length = 1))))
theorem digit_of (n : Nat) (h : n < 10) : digB (UInt8.ofNat (48 + n)) = true ∧ (UInt8.ofNat (48 + n)).toNat = 48 + n := by
  have : (UInt8.ofNat (48 + n)).toNat = 48 + n := by rw [UInt8.toNat_ofNat']; omega
  refine ⟨?_, this⟩
  unfold digB
  rw [this]
  simp; omega
theorem decDigits_facts : ∀ (m n : Nat), n ≤ m → (Lib.decDigits n).all digB = true ∧ valL (Lib.decDigits n) = n ∧ 1 ≤ (Lib.decDigits n).length ∧ (n ≠ 0 → (Lib.decDigits n).head? ≠ some 48) := by
  intro m
  induction m with
  | zero =>
    intro n hn
    have : n = 0 := by omega
    subst this
    rw [Lib.decDigits_one (by decide)]
    exact ⟨by decide, by decide, by decide, fun h => absurd rfl h⟩
  | succ m ih =>
    intro n hn
    by_cases h : n < 10
    · obtain ⟨h1, h2⟩ := digit_of n h
      rw [Lib.decDigits_one h]
      refine ⟨by rw [List.all_cons, h1]; rfl, ?_, by simp, fun h0 => ?_⟩
      · have := valL_snoc (l := []) (b := UInt8.ofNat (48 + n)) rfl h1
        rw [List.nil_append] at this
        rw [this, h2]
        show 0 * 10 + _ = _
        omega
      · intro e
        simp only [List.head?_cons, Option.some.injEq] at e
        have := congrArg UInt8.toNat e
        rw [h2] at this
        have e48 : (48 : UInt8).toNat = 48 := rfl
        omega
    · obtain ⟨a1, a2, a3, a4⟩ := ih (n / 10) (by omega)
      obtain ⟨h1, h2⟩ := digit_of (n % 10) (by omega)
      rw [Lib.decDigits, dif_neg h]
      refine ⟨by simp only [List.all_append, a1, List.all_cons, h1, List.all_nil, Bool.and_true], ?_, by simp, fun _ => ?_⟩
      · rw [valL_snoc a1 h1, a2, h2]; omega
      · have h3 := a4 (by omega)
        cases hd : Lib.decDigits (n / 10) with
        | nil => rw [hd] at a3; simp at a3
        | cons x xs => rw [hd] at h3; simpa using h3
theorem isNumL_iff (l : Bs) (d : Nat) : isNumL l d = true ↔ (1 ≤ l.length ∧ l.length ≤ d ∧ l.all digB = true ∧ (l.head? ≠ some 48 ∨ l.length = 1)) := by
  unfold isNumL
  simp only [Bool.and_eq_true, Bool.or_eq_true, decide_eq_true_eq]
theorem valL_pos {l : Bs} (h : l.all digB = true) (h0 : l ≠ []) (hh : l.head? ≠ some 48) : 1 ≤ valL l := by
  have : ∀ (l : Bs) (acc n : Nat), 1 ≤ acc → Lib.decFrom acc l = some n → 1 ≤ n := by
    intro l
    induction l with
    | nil => intro acc n ha h; cases h; exact ha
    | cons b t ih =>
      intro acc n ha h
      simp only [Lib.decFrom] at h
      cases hd : Lib.digitVal b with
      | none => rw [hd] at h; cases h
      | some d => rw [hd] at h; exact ih _ n (by omega) h
  cases l with
  | nil => exact absurd rfl h0
  | cons b t =>
    have hv := decFrom_val h
    simp only [List.all_cons, Bool.and_eq_true] at h
    simp only [Lib.decFrom, digB_val h.1] at hv
    refine this t _ _ ?_ hv
    have h1 : b ≠ 48 := fun e => hh (by rw [e]; rfl)
    have h2 := h.1
    unfold digB at h2
    simp only [Bool.and_eq_true, decide_eq_true_eq] at h2
    have h3 : b.toNat ≠ 48 := fun e => h1 (UInt8.toNat_inj.1 e)
    omega
theorem num_digits : ∀ (n : Nat) (l : Bs), l.length ≤ n → ∀ d, isNumL l d = true → Lib.decDigits (valL l) = l := by
  intro n
  induction n with
  | zero =>
    intro l hl d h
    rw [isNumL_iff] at h
    omega
  | succ n ih =>
    intro l hl d h
    rw [isNumL_iff] at h
    obtain ⟨h1, h2, h3, h4⟩ := h
    rcases List.eq_nil_or_concat l with rfl | ⟨a, b, hab⟩
    · simp at h1
    · rw [List.concat_eq_append] at hab
      subst hab
      simp only [List.all_append, List.all_cons, List.all_nil, Bool.and_true, Bool.and_eq_true] at h3
      obtain ⟨ha, hb⟩ := h3
      have hbt := hb
      unfold digB at hbt
      simp only [Bool.and_eq_true, decide_eq_true_eq] at hbt
      have hbv : UInt8.ofNat (48 + (b.toNat - 48)) = b := by
        apply UInt8.toNat_inj.1
        rw [UInt8.toNat_ofNat']
        have := b.toNat_lt
        omega
      rw [valL_snoc ha hb]
      by_cases e : a = []
      · subst e
        have : valL ([] : Bs) = 0 := rfl
        rw [this, Nat.zero_mul, Nat.zero_add, Lib.decDigits_one (by omega), hbv]
        rfl
      · have hh : a.head? ≠ some 48 := by
          cases a with
          | nil => exact absurd rfl e
          | cons x xs =>
            rcases h4 with h4 | h4
            · simpa using h4
            · simp at h4
        have hpos := valL_pos ha e hh
        have hal : 1 ≤ a.length := by
          cases a with
          | nil => exact absurd rfl e
          | cons x xs => simp
        have iha := ih a (by simp at hl; omega) a.length (by rw [isNumL_iff]; exact ⟨hal, Nat.le_refl _, ha, .inl hh⟩)
        rw [Lib.decDigits, dif_neg (by omega)]
        have e1 : (valL a * 10 + (b.toNat - 48)) / 10 = valL a := by omega
        have e2 : (valL a * 10 + (b.toNat - 48)) % 10 = b.toNat - 48 := by omega
        rw [e1, e2, iha, hbv]
theorem isNum_digits (n d : Nat) (h : (Lib.decDigits n).length ≤ d) : isNumL (Lib.decDigits n) d = true ∧ valL (Lib.decDigits n) = n := by
  obtain ⟨h1, h2, h3, h4⟩ := decDigits_facts n n (Nat.le_refl _)
  refine ⟨(isNumL_iff _ _).2 ⟨h3, h, h1, ?_⟩, h2⟩
  by_cases e : n = 0
  · subst e; exact .inr (by rw [Lib.decDigits_one (by decide)]; rfl)
  · exact .inl (h4 e)
theorem valL_lt {l : Bs} (h : l.all digB = true) : valL l < 10 ^ l.length := by
  have := Lib.decFrom_lt l 0 _ (decFrom_val h)
  simpa using this
theorem atoi_num {l : Bs} (h0 : 1 ≤ l.length) (h : l.all digB = true) : Lib.atoi l = some (valL l : Int) := by
  cases l with
  | nil => simp at h0
  | cons b t =>
    have hb : digB b = true := by simp only [List.all_cons, Bool.and_eq_true] at h; exact h.1
    have hbt := hb
    unfold digB at hbt
    simp only [Bool.and_eq_true, decide_eq_true_eq] at hbt
    have e1 : (b == 45) = false := by
      rw [beq_eq_false_iff_ne]
      intro e; rw [e] at hbt; revert hbt; decide
    have e2 : (b == 43) = false := by
      rw [beq_eq_false_iff_ne]
      intro e; rw [e] at hbt; revert hbt; decide
    unfold Lib.atoi
    simp only [e1, e2, Bool.false_eq_true, if_false]
    unfold Lib.decNat
    simp only [List.isEmpty_cons, Bool.false_eq_true, if_false]
    rw [decFrom_val h]
    rfl
end Go.Lm

/- What is read: lines of words of a text, at a place. No program. -/
set_option maxRecDepth 100000
namespace Go.Lm
def toL (s : ByteArray) : Bs := s.data.toList
def ofL (l : Bs) : ByteArray := ⟨l.toArray⟩
@[simp] theorem toL_ofL (l : Bs) : toL (ofL l) = l := rfl
@[simp] theorem ofL_toL (s : ByteArray) : ofL (toL s) = s := by cases s; rfl
theorem toL_len (s : ByteArray) : (toL s).length = s.size := by unfold toL; rw [Array.length_toList]; rfl
theorem toL_app (a b : ByteArray) : toL (a ++ b) = toL a ++ toL b := by unfold toL; simp
theorem toL_inj {a b : ByteArray} (h : toL a = toL b) : a = b := by rw [← ofL_toL a, ← ofL_toL b, h]
theorem toL_extract (s : ByteArray) (i j : Nat) : toL (s.extract i j) = ((toL s).drop i).take (j - i) := by
  unfold toL
  simp only [ByteArray.data_extract, Array.toList_extract, List.extract_eq_take_drop]
theorem ofL_size (l : Bs) : (ofL l).size = l.length := by rw [← toL_len, toL_ofL]
theorem take_drop_self {α : Type} (l : List α) (i : Nat) : (l.drop i).take (l.length - i) = l.drop i := List.take_of_length_le (by simp)
/-- The words of the line that begins at a place, and the place behind it; none: it has no end, or a word is empty. -/
def lineS (s : ByteArray) (p : Nat) : Option (List ByteArray × Nat) := match cutL 10 ((toL s).drop p) with
  | none => none
  | some (a, _) => match (splitL 32 a).any List.isEmpty with
    | true => none
    | false => some ((splitL 32 a).map ofL, p + a.length + 1)
/-- A word of a line. -/
def Word (w : ByteArray) : Prop := toL w ≠ [] ∧ (32 : UInt8) ∉ toL w ∧ (10 : UInt8) ∉ toL w
def lineOf (ws : List ByteArray) : Bs := joinL 32 (ws.map toL)
theorem lineS_some {s : ByteArray} {p q : Nat} {ws : List ByteArray} (h : lineS s p = some (ws, q)) :
    ws ≠ [] ∧ (∀ w ∈ ws, Word w) ∧ q = p + (lineOf ws).length + 1 ∧ (toL s).drop p = lineOf ws ++ 10 :: (toL s).drop q := by
  unfold lineS at h
  cases hc : cutL 10 ((toL s).drop p) with
  | none => rw [hc] at h; cases h
  | some x =>
    obtain ⟨a, r⟩ := x
    rw [hc] at h
    simp only at h
    cases he : (splitL 32 a).any List.isEmpty with
    | true => rw [he] at h; cases h
    | false =>
      rw [he] at h
      cases h
      obtain ⟨h1, h2⟩ := cutL_some hc
      have e : lineOf ((splitL 32 a).map ofL) = a := by
        unfold lineOf
        rw [List.map_map]
        have : (toL ∘ ofL) = id := rfl
        rw [this, List.map_id]
        exact join_split 32 _ a (Nat.le_refl _)
      refine ⟨by simp [splitL_ne], fun w hw => ?_, by rw [e], ?_⟩
      · obtain ⟨v, hv, rfl⟩ := List.mem_map.1 hw
        have h3 := split_mem 32 _ a (Nat.le_refl _) v hv
        rw [List.any_eq_false] at he
        have h4 := he v hv
        refine ⟨fun e => h4 (by rw [toL_ofL] at e; rw [e]; rfl), h3.1, fun e => h2 (h3.2 _ e)⟩
      · rw [e, h1]
        have e2 : (toL s).drop (p + a.length + 1) = r := by
          have : (toL s).drop (p + a.length + 1) = ((toL s).drop p).drop (a.length + 1) := by rw [List.drop_drop]; congr 1
          rw [this, h1]
          simp [List.drop_append]
        rw [e2]
theorem lineS_at {s : ByteArray} {p : Nat} {ws : List ByteArray} {rest : Bs} (h0 : ws ≠ []) (hw : ∀ w ∈ ws, Word w) (h : (toL s).drop p = lineOf ws ++ 10 :: rest) :
    lineS s p = some (ws, p + (lineOf ws).length + 1) ∧ (toL s).drop (p + (lineOf ws).length + 1) = rest := by
  have hn : (10 : UInt8) ∉ lineOf ws := joinL_not 32 10 (by decide) _ fun w hw' => by
    obtain ⟨v, hv, rfl⟩ := List.mem_map.1 hw'
    exact (hw v hv).2.2
  have hs : splitL 32 (lineOf ws) = ws.map toL := split_join 32 _ (by simpa using h0) fun w hw' => by
    obtain ⟨v, hv, rfl⟩ := List.mem_map.1 hw'
    exact (hw v hv).2.1
  refine ⟨?_, ?_⟩
  · unfold lineS
    rw [h, cutL_at _ hn]
    simp only
    rw [hs]
    have : (ws.map toL).any List.isEmpty = false := by
      rw [List.any_eq_false]
      intro w hw'
      obtain ⟨v, hv, rfl⟩ := List.mem_map.1 hw'
      have := (hw v hv).1
      cases hx : toL v with
      | nil => exact absurd hx this
      | cons a b => simp
    rw [this]
    simp only [List.map_map]
    have e : (ofL ∘ toL) = id := by funext x; exact ofL_toL x
    rw [e, List.map_id]
  · have : (toL s).drop (p + (lineOf ws).length + 1) = ((toL s).drop p).drop ((lineOf ws).length + 1) := by rw [List.drop_drop]; congr 1
    rw [this, h]
    simp [List.drop_append]
theorem lineS_lt {s : ByteArray} {p q : Nat} {ws : List ByteArray} (h : lineS s p = some (ws, q)) : p < q ∧ q ≤ s.size := by
  obtain ⟨_, _, h2, h3⟩ := lineS_some h
  refine ⟨by omega, ?_⟩
  have := congrArg List.length h3
  simp only [List.length_drop, List.length_append, List.length_cons, toL_len] at this
  omega
/-- The words behind the first one, which is given, of a line of so many words. -/
def wordsS (s : ByteArray) (p : Nat) (word : ByteArray) (many : Nat) : Option (List ByteArray × Nat) := match lineS s p with
  | some (w :: ws, q) => (match decide (ws.length + 1 = many) && strEq w word with
    | true => some (ws, q)
    | false => none)
  | _ => none
theorem wordsS_some {s : ByteArray} {p q many : Nat} {word : ByteArray} {ws : List ByteArray} (h : wordsS s p word many = some (ws, q)) : lineS s p = some (word :: ws, q) ∧ ws.length + 1 = many := by
  unfold wordsS at h
  split at h
  · rename_i w ws' q' hl
    split at h
    · rename_i hb
      simp only [Bool.and_eq_true, decide_eq_true_eq] at hb
      cases h
      rw [(strEq_iff _ _).1 hb.2] at hl
      exact ⟨hl, hb.1⟩
    · cases h
  · cases h
theorem wordsS_of {s : ByteArray} {p q : Nat} {word : ByteArray} {ws : List ByteArray} (h : lineS s p = some (word :: ws, q)) : wordsS s p word (ws.length + 1) = some (ws, q) := by
  unfold wordsS
  rw [h]
  simp only [decide_true, Bool.true_and]
  rw [(strEq_iff _ _).2 rfl]
/-- Is a word a number of at most so many digits? -/
def isNumS (s : ByteArray) (d : Nat) : Bool := isNumL (toL s) d
def numV (s : ByteArray) : Int := (valL (toL s) : Int)
theorem bs_toL (l : List Nat) : toL (bs l) = l.map UInt8.ofNat := rfl
/-- Where what cannot be read begins, or what was read. -/
abbrev Rd (α : Type) := Except Nat α
/-- So many bytes. -/
def takeS (s : ByteArray) (q : Nat) (n : Int) : Rd (ByteArray × Nat) := match decide ((s.size : Int) - q < n) with
  | true => .error s.size
  | false => .ok (s.extract q (q + n.toNat), q + n.toNat)
end Go.Lm
