/- The text of a result: sizes; the reference's function. -/
import Derived.Test.YtnapepffpbbkoaaGreatDoorLmR7
set_option maxRecDepth 100000
namespace Go.Lm
section
variable {R : Type}
theorem fileLine_size (f : File) (hp : f.p.size ≤ 200) (hb : f.b.size ≤ 100000) : (fileLineS f).size ≤ 230 := by
  have h1 := itoa_size (f.b.size : Int) (by omega) (by omega)
  have h2 := signS_size f.r
  have e1 : (bs [102, 105, 108, 101, 32]).size = 5 := rfl
  have e2 : (bs [32]).size = 1 := rfl
  have e3 : (bs [10]).size = 1 := rfl
  unfold fileLineS
  simp only [app_size]
  omega
theorem files_size {l : List File} (hl : ∀ f ∈ l, f.p.size ≤ 200 ∧ f.b.size ≤ 100000) (h : ByteArray) : ∀ i, i ≤ l.length → (filesT l h i).size ≤ h.size + i * 100231
  | 0, _ => by simp [filesT]
  | i + 1, hi => by
    have ih := files_size hl h i (by omega)
    have hm := hl _ (file_mem l i (by omega))
    have h1 := fileLine_size _ hm.1 hm.2
    have e3 : (bs [10]).size = 1 := rfl
    simp only [filesT, app_size]
    omega
theorem line_size (y : Look) (hp : y.p.size ≤ 200) (hd : y.d.size ≤ 16) : (lookLineS y).size ≤ 230 := by
  have h2 := signS_size y.r
  have e1 : (bs [108, 111, 111, 107, 32]).size = 5 := rfl
  have e2 : (bs [32]).size = 1 := rfl
  have e3 : (bs [10]).size = 1 := rfl
  have h3 : (digS y.d).size ≤ 16 := by
    unfold digS
    split
    · decide
    · exact hd
  unfold lookLineS
  simp only [app_size]
  omega
theorem look_mem (l : List Look) (i : Nat) (h : i < l.length) : l.getD i .zero ∈ l := by
  rw [List.getD_eq_getElem?_getD, List.getElem?_eq_getElem h]; exact List.getElem_mem h
theorem looks_size {l : List Look} (hl : ∀ y ∈ l, y.p.size ≤ 200 ∧ y.d.size ≤ 16) (h : ByteArray) : ∀ i, i ≤ l.length → (looksT l h i).size ≤ h.size + i * 230
  | 0, _ => by simp [looksT]
  | i + 1, hi => by
    have ih := looks_size hl h i (by omega)
    have hm := hl _ (look_mem l i (by omega))
    have h1 := line_size _ hm.1 hm.2
    simp only [looksT, app_size]
    omega
theorem head_size {x : Res} (r : ResRight x) : (headS x).size ≤ 100100 := by
  have h1 := itoa_size x.code (by have := r.code; omega) (by have := r.code; omega)
  have h2 := itoa_size x.cmd (by have := r.cmd; omega) (by have := r.cmd; omega)
  have h3 := itoa_size (x.text.size : Int) (by omega) (by have := r.text; omega)
  have e1 : (bs [99, 111, 100, 101, 32]).size = 5 := rfl
  have e2 : (bs [32]).size = 1 := rfl
  have e3 : (bs [10]).size = 1 := rfl
  have e4 : (bs [10, 116, 101, 120, 116, 32]).size = 6 := rfl
  have := r.text
  unfold headS
  simp only [app_size]
  omega
theorem head_pos (x : Res) : 0 < (headS x).size := by
  have e1 : (bs [99, 111, 100, 101, 32]).size = 5 := rfl
  unfold headS
  simp only [app_size]
  omega
theorem filesT_pos {l : List File} {h : ByteArray} (h0 : 0 < h.size) : ∀ i, 0 < (filesT l h i).size
  | 0 => h0
  | i + 1 => by simp only [filesT, app_size]; have := filesT_pos (l := l) h0 i; omega
theorem looksT_pos {l : List Look} {h : ByteArray} (h0 : 0 < h.size) : ∀ i, 0 < (looksT l h i).size
  | 0 => h0
  | i + 1 => by simp only [looksT, app_size]; have := looksT_pos (l := l) h0 i; omega
theorem head_at (k : Nat) {x : Res} (r : ResRight x) {S : List LV} (hS : HasPow S) (K : ByteArray → List LV → Option R) :
    (H.Itoa.fn k (x.code, ()) S fun r1 S => catStr (bs [99, 111, 100, 101, 32]) r1.1 fun s2 => catStr s2 (bs [32]) fun s3 => H.Itoa.fn k (x.cmd, ()) S fun r4 S => catStr s3 r4.1 fun s5 => catStr s5 (bs [10, 116, 101, 120, 116, 32]) fun s6 => H.Itoa.fn k ((x.text.size : Int), ()) S fun r7 S => catStr s6 r7.1 fun s8 => catStr s8 (bs [10]) fun s9 => catStr s9 x.text fun s10 => K s10 S) = K (headS x) S := by
  have c1 := r.code; have c2 := r.cmd; have c3 := r.text
  have h1 := itoa_size x.code (by omega) (by omega)
  have h2 := itoa_size x.cmd (by omega) (by omega)
  have h3 := itoa_size (x.text.size : Int) (by omega) (by omega)
  have e1 : (bs [99, 111, 100, 101, 32]).size = 5 := rfl
  have e2 : (bs [32]).size = 1 := rfl
  have e3 : (bs [10]).size = 1 := rfl
  have e4 : (bs [10, 116, 101, 120, 116, 32]).size = 6 := rfl
  rw [Itoa_at k hS _ (by omega) (by omega)]
  dsimp only
  rw [catStr_le (by omega), catStr_le (by simp only [app_size]; omega), Itoa_at k hS _ (by omega) (by omega)]
  dsimp only
  rw [catStr_le (by simp only [app_size]; omega), catStr_le (by simp only [app_size]; omega), Itoa_at k hS _ (by omega) (by omega)]
  dsimp only
  rw [catStr_le (by simp only [app_size]; omega), catStr_le (by simp only [app_size]; omega), catStr_le (by simp only [app_size]; omega)]
  rfl
end
end Go.Lm
