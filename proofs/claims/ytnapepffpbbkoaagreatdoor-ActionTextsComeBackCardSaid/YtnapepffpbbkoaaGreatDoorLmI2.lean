/- Paths, digests and numbers as words. No program. -/
import Derived.Test.YtnapepffpbbkoaaGreatDoorLmN
import Derived.Test.YtnapepffpbbkoaaGreatDoorLmI
import Derived.Lib.ItoaLen
set_option maxRecDepth 100000
namespace Go.Lm
theorem scan_true {step : Nat → Option Bool} {fin : Bool} (hs : ∀ j, step j = none ∨ step j = some false) : ∀ (d i : Nat), scan step fin d i = true → (∀ j, i ≤ j → j < i + d → step j = none) ∧ fin = true
  | 0, i, h => ⟨fun j h1 h2 => by omega, h⟩
  | d + 1, i, h => by
    simp only [scan] at h
    rcases hs i with h1 | h1
    · rw [h1] at h
      obtain ⟨h2, h3⟩ := scan_true hs d (i + 1) h
      refine ⟨fun j a b => ?_, h3⟩
      by_cases e : j = i
      · subst e; exact h1
      · exact h2 j (by omega) (by omega)
    · rw [h1] at h; cases h
theorem bt_mem {s : ByteArray} {b : UInt8} (h : b ∈ toL s) : ∃ j, j < s.size ∧ bt s (j : Int) = (b.toNat : Int) := by
  obtain ⟨j, hj, e⟩ := List.getElem_of_mem h
  rw [toL_len] at hj
  refine ⟨j, hj, ?_⟩
  rw [bt_nat hj]
  have h5 : (toL s)[j]? = some (s[j]'hj) := by
    unfold toL
    rw [Array.getElem?_toList]
    exact Array.getElem?_eq_getElem hj
  rw [List.getElem?_eq_getElem (by rw [toL_len]; exact hj), e] at h5
  simp only [Option.some.injEq] at h5
  rw [← h5]
theorem part_bytes {s : ByteArray} (h : isPartS s = true) : toL s ≠ [] ∧ ∀ b ∈ toL s, partB (b.toNat : Int) = true := by
  unfold isPartS at h
  obtain ⟨h1, h2⟩ := scan_true (fun j => by cases partB (bt s j) <;> simp) _ _ h
  refine ⟨fun e => ?_, fun b hb => ?_⟩
  · have : strEq s (bs []) = true := by rw [strEq_iff]; exact toL_inj e
    rw [this] at h2
    simp at h2
  · obtain ⟨j, hj, e⟩ := bt_mem hb
    have := h1 j (Nat.zero_le _) (by omega)
    rw [e] at this
    cases hp : partB (b.toNat : Int) with
    | true => rfl
    | false => rw [hp] at this; cases this
theorem parts_eq (s : ByteArray) : partsOf s = splitW 47 s := by
  unfold partsOf
  have h := Lib.splitB_data (bs [47]) 0 (Lib.countB s (bs [47])) s
  have h2 : Lib.splitK (bs [47]).data.toList 0 (Lib.countB s (bs [47])) s.data.toList = splitL 47 (toL s) := splitK_cut 47 _ (toL s) rfl
  rw [h2] at h
  unfold splitW
  rw [← h, List.map_map]
  have : (ofL ∘ fun x : ByteArray => x.data.toList) = id := by funext x; exact ofL_toL x
  rw [this, List.map_id]
theorem path_word {s : ByteArray} (h : isPathS s = true) : Word s := by
  unfold isPathS at h
  simp only [Bool.and_eq_true, decide_eq_true_eq] at h
  obtain ⟨h1, _, h3⟩ := h
  rw [parts_eq] at h3
  have hl := toL_len s
  have hj := join_split 47 _ (toL s) (Nat.le_refl _)
  have not : ∀ d : UInt8, d ≠ 47 → partB (d.toNat : Int) = false → d ∉ toL s := fun d hd hp => by
    rw [← hj]
    refine joinL_not 47 d hd _ fun w hw hm => ?_
    have h4 := List.all_eq_true.1 h3 (ofL w) (List.mem_map.2 ⟨w, hw, rfl⟩)
    have h5 := (part_bytes h4).2 d hm
    rw [hp] at h5; cases h5
  refine ⟨fun e => ?_, not 32 (by decide) (by decide), not 10 (by decide) (by decide)⟩
  rw [e] at hl; simp at hl; omega
theorem digest_word {s : ByteArray} (h : isDigestS s = true) : Word s ∧ strEq s (bs [45]) = false ∧ strEq s (bs []) = false := by
  unfold isDigestS at h
  rw [Bool.and_eq_true, List.all_eq_true] at h
  obtain ⟨h1, h2⟩ := h
  have h3 := beq_iff_eq.1 h2
  have hl := toL_len s
  refine ⟨⟨fun e => ?_, fun hm => ?_, fun hm => ?_⟩, ?_, ?_⟩
  · rw [e] at hl; simp at hl; omega
  · have := h1 32 hm; revert this; decide
  · have := h1 10 hm; revert this; decide
  · rw [← Bool.not_eq_true, strEq_iff]; intro e; rw [e] at h3; revert h3; decide
  · rw [← Bool.not_eq_true, strEq_iff]; intro e; rw [e] at h3; revert h3; decide
theorem itoa_digits (n : Nat) : toL (itoaS (n : Int)) = Lib.decDigits n := by
  unfold itoaS toL Lib.itoa
  rw [if_neg (by omega)]
  simp
theorem digits_word (n : Nat) : Word (itoaS (n : Int)) := by
  obtain ⟨h1, _, h3, _⟩ := decDigits_facts n n (Nat.le_refl _)
  unfold Word
  rw [itoa_digits]
  rw [List.all_eq_true] at h1
  refine ⟨fun e => by rw [e] at h3; simp at h3, fun hm => ?_, fun hm => ?_⟩
  · have := h1 32 hm; revert this; decide
  · have := h1 10 hm; revert this; decide
theorem digits_len (n : Nat) (h : n < 1000000000) : (Lib.decDigits n).length ≤ 9 := by
  rw [Lib.decDigits_length]
  rcases Nat.lt_or_ge 9 (Lib.nDigits n) with h1 | h1
  · exfalso
    have key : ∀ (k m : Nat), k < Lib.nDigits m → 10 ^ k ≤ m ∨ k = 0 := by
      intro k
      induction k with
      | zero => intro m _; exact .inr rfl
      | succ k ih =>
        intro m hm
        left
        by_cases h10 : m < 10
        · rw [Lib.nDigits_small h10] at hm; omega
        · rw [Lib.nDigits_big h10] at hm
          rcases ih (m / 10) (by omega) with h2 | h2
          · rw [Nat.pow_succ]
            have := Nat.mul_le_mul_right 10 h2
            omega
          · subst h2; simp; omega
    rcases key 9 n h1 with h2 | h2
    · have : (10 : Nat) ^ 9 = 1000000000 := rfl
      omega
    · omega
  · exact h1
theorem itoa_num (n : Nat) (h : n < 1000000000) : isNumS (itoaS (n : Int)) 9 = true ∧ numV (itoaS (n : Int)) = n := by
  unfold isNumS numV
  rw [itoa_digits]
  obtain ⟨h1, h2⟩ := isNum_digits n 9 (digits_len n h)
  exact ⟨h1, by rw [h2]⟩
theorem num_itoa {w : ByteArray} (h : isNumS w 9 = true) : itoaS (numV w) = w := by
  apply toL_inj
  unfold numV
  rw [itoa_digits]
  exact num_digits _ _ (Nat.le_refl _) 9 h
end Go.Lm
