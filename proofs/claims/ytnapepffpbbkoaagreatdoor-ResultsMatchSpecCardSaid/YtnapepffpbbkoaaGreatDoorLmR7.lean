/- What a right result is known to be. -/
import Derived.Test.YtnapepffpbbkoaaGreatDoorLmR6
import Derived.Lib.ItoaLen
set_option maxRecDepth 100000
namespace Go.Lm
section
variable {R : Type}
theorem scan_zero {step : Nat → Option Int} {fin : Int} (hs : ∀ j r, step j = some r → r ≠ 0) : ∀ (d i : Nat), scan step fin d i = 0 → ∀ j, i ≤ j → j < i + d → step j = none
  | 0, i, _, j, h1, h2 => by omega
  | d + 1, i, h, j, h1, h2 => by
    simp only [scan] at h
    cases hi : step i with
    | some r => rw [hi] at h; exact absurd h (hs i r hi)
    | none =>
      rw [hi] at h
      by_cases e : j = i
      · subst e; exact hi
      · exact scan_zero hs d (i + 1) h j (by omega) (by omega)
theorem path_size {p : ByteArray} (h : isPathS p = true) : p.size ≤ 200 := by
  unfold isPathS at h
  simp only [Bool.and_eq_true, decide_eq_true_eq] at h
  exact h.2.1
theorem dig_size {d : ByteArray} (h : isDigestS d = true) : d.size ≤ 16 := by
  unfold isDigestS at h
  rw [Bool.and_eq_true] at h
  have := eq_of_beq h.2
  omega
theorem fileS_none {l : List File} {i : Nat} (h : fileS l i = none) : (l.getD i .zero).p.size ≤ 200 ∧ (l.getD i .zero).b.size ≤ 100000 := by
  unfold fileS at h
  split at h
  · cases h
  · rename_i h1
    split at h
    · cases h
    · rename_i h2
      have := of_decide_eq_false h2
      exact ⟨path_size (by simpa using h1), by omega⟩
theorem fileS_ne {l : List File} (j : Nat) (r : Int) (h : fileS l j = some r) : r ≠ 0 := by
  unfold fileS at h
  split at h
  · cases h; decide
  · split at h
    · cases h; decide
    · split at h
      · cases h; decide
      · cases h
theorem lookS_ne {l : List Look} (j : Nat) (r : Int) (h : lookS l j = some r) : r ≠ 0 := by
  unfold lookS at h
  dsimp only at h
  split at h
  · cases h; decide
  · split at h
    · cases h; decide
    · split at h
      · cases h; decide
      · cases h
theorem lookS_none {l : List Look} {i : Nat} (h : lookS l i = none) : (l.getD i .zero).p.size ≤ 200 ∧ (l.getD i .zero).d.size ≤ 16 := by
  unfold lookS at h
  dsimp only at h
  split at h
  · cases h
  · rename_i h1
    split at h
    · cases h
    · rename_i h2
      refine ⟨path_size (by simpa using h1), ?_⟩
      rw [Bool.or_eq_false_iff] at h2
      cases he : strEq (l.getD i .zero).d (bs []) with
      | true => rw [(strEq_iff _ _).1 he]; decide
      | false =>
        have h3 := h2.1
        change (!(strEq (l.getD i .zero).d (bs [])) && !(isDigestS (l.getD i .zero).d)) = false at h3
        rw [he] at h3
        exact dig_size (by simpa using h3)
theorem mem_getD {α : Type} {l : List α} {x z : α} (h : x ∈ l) : ∃ i, i < l.length ∧ l.getD i z = x := by
  obtain ⟨i, hi, e⟩ := List.getElem_of_mem h
  exact ⟨i, hi, by rw [List.getD_eq_getElem?_getD, List.getElem?_eq_getElem hi]; exact e⟩
theorem res_right {x : Res} (h : checkResS x = 0) : ResRight x := by
  unfold checkResS at h
  split at h
  · cases h
  · rename_i h1
    split at h
    · cases h
    · rename_i h2
      split at h
      · cases h
      · unfold tailS at h
        split at h
        · rename_i h3; rw [h] at h3; cases h3
        · rename_i h3
          have hf : checkFilesS x.files = 0 := eq_of_beq h3
          split at h
          · cases h
          · unfold withinB at h1
            simp only [Bool.and_eq_true, decide_eq_true_eq] at h1
            have := of_decide_eq_false h2
            refine ⟨⟨h1.1.1, h1.1.2⟩, ⟨h1.2.1, h1.2.2⟩, by omega, ?_, checkLooks_len h, ?_⟩
            · unfold checkFilesS at hf
              split at hf
              · cases hf
              · rename_i h4
                have h4 := of_decide_eq_false h4
                refine ⟨by omega, fun f hfm => ?_⟩
                obtain ⟨i, hi, rfl⟩ := mem_getD (z := File.zero) hfm
                exact fileS_none (scan_zero fileS_ne _ _ hf i (Nat.zero_le _) (by omega))
            · intro y hy
              unfold checkLooksS at h
              split at h
              · cases h
              · obtain ⟨i, hi, rfl⟩ := mem_getD (z := Look.zero) hy
                exact lookS_none (scan_zero lookS_ne _ _ h i (Nat.zero_le _) (by omega))
theorem itoa_size (n : Int) (h0 : -9223372036854775808 ≤ n) (h1 : n ≤ 9223372036854775807) : (itoaS n).size ≤ 21 := by
  have := Lib.itoa_length_le n h0 h1
  unfold itoaS
  simpa [ByteArray.size] using this
end
end Go.Lm
