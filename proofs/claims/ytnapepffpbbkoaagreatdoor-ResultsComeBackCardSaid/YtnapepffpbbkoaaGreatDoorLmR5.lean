/- Builders: what is written to them. -/
import Derived.Test.YtnapepffpbbkoaaGreatDoorLmR
import Derived.Lib.ItoaLen
set_option maxRecDepth 100000
namespace Go.Lm
section
variable {R : Type}
/-- A builder's cells. -/
def bldC (id : Nat) (acc : Option ByteArray) : List LV := match acc with
  | none => [.nilp, .nilsl]
  | some b => [.ptr id 0, .own tyU8 1 (bytesL b)]
def accB (acc : Option ByteArray) : ByteArray := acc.getD (bs [])
abbrev bldS (S : List LV) (acc : Option ByteArray) : List LV := S ++ [.obj H.builderT (bldC S.length acc)]
theorem bldS_at (S : List LV) (acc : Option ByteArray) (K : Nat → List LV → Option R) : objAt (bldS S acc) S.length K = K H.builderT (bldC S.length acc) := objAt_at (T := []) K
theorem copyCheck_at (k : Nat) (S : List LV) (acc : Option ByteArray) (K : Unit → List LV → Option R) :
    H.copyCheck.fn k ((S.length, 0), ()) (bldS S acc) K = K () (S ++ [.obj H.builderT [.ptr S.length 0, (bldC S.length acc).getD 1 .any]]) := by
  unfold H.copyCheck.fn ccF
  have e : (bldS S acc).getD S.length .any = .obj H.builderT (bldC S.length acc) := by simp [List.getD_eq_getElem?_getD]
  rw [e]
  cases acc with
  | none =>
    unfold bldC
    dsimp only
    rw [setLast]
    rfl
  | some b =>
    unfold bldC
    dsimp only
    have e0 : (Nat.beq H.builderT H.builderT && Nat.beq 0 0 && Nat.beq ([LV.own tyU8 1 (bytesL b)] : List LV).length 1) = true := rfl
    have : (Nat.beq S.length S.length && Nat.beq 0 0) = true := by simp
    rw [e0]
    dsimp only
    rw [this]
    rfl
theorem bytesL_app (a b : ByteArray) : bytesL a ++ bytesL b = bytesL (a ++ b) := by
  unfold bytesL
  rw [← List.map_append]
  congr 1
theorem write_at (k : Nat) (S : List LV) (acc : Option ByteArray) (s : ByteArray) (hs : (accB acc).size + s.size ≤ 140737488355328) (S' : List LV) (hS' : S' = S ++ [.obj H.builderT [.ptr S.length 0, (bldC S.length acc).getD 1 .any]]) (K : List LV → Option R) :
    (objAt S' S.length fun ty c2 => asOwn 5 1 (c2.getD (0 + 1) .any) fun l3 => setS (S'.set S.length (.obj ty (c2.set (0 + 1) (.sl 1 l3)))) fun S2 => app 1 l3 (bytesL s) fun l4 => objAt S2 S.length fun ty c5 => stO c5 (0 + 1) [(.own 5 1 l4)] fun c6 => setS (S2.set S.length (.obj ty c6)) fun S => K S) = K (bldS S (some (accB acc ++ s))) := by
  subst hS'
  rw [objAt_at (T := [])]
  have hown : ∀ (K' : List LV → Option R), asOwn 5 1 (([.ptr S.length 0, (bldC S.length acc).getD 1 .any] : List LV).getD (0 + 1) .any) K' = K' (bytesL (accB acc)) := fun K' => by
    cases acc with
    | none => rfl
    | some b => rfl
  rw [hown]
  unfold setS
  dsimp only
  rw [setLast, app_le (by rw [bytesL_len, bytesL_len]; omega) (by rw [bytesL_len, bytesL_len]; omega), bytesL_app, objAt_at (T := [])]
  unfold stO
  have e : Nat.ble (0 + 1 + ([LV.own 5 1 (bytesL (accB acc ++ s))] : List LV).length) (([LV.ptr S.length 0, (bldC S.length acc).getD 1 .any] : List LV).set (0 + 1) (.sl 1 (bytesL (accB acc)))).length = true := rfl
  rw [e, ifB_true]
  show K (List.set _ _ _) = _
  rw [setLast]
  rfl
theorem WriteString_at (k : Nat) (S : List LV) (acc : Option ByteArray) (s : ByteArray) (hs : (accB acc).size + s.size ≤ 140737488355328) (K : Int × Unit × Unit → List LV → Option R) :
    G.strings_Builder_WriteString.fn k ((S.length, 0), s, ()) (bldS S acc) K = K ((s.size : Int), (), ()) (bldS S (some (accB acc ++ s))) := by
  unfold G.strings_Builder_WriteString.fn
  dsimp only
  rw [copyCheck_at]
  exact write_at k S acc s hs _ rfl (fun S => K ((s.size : Int), (), ()) S)
theorem Write_at (k : Nat) (S : List LV) (acc : Option ByteArray) (s : ByteArray) (hs : (accB acc).size + s.size ≤ 140737488355328) (K : Int × Unit × Unit → List LV → Option R) :
    G.strings_Builder_Write.fn k ((S.length, 0), bytesL s, ()) (bldS S acc) K = K ((s.size : Int), (), ()) (bldS S (some (accB acc ++ s))) := by
  unfold G.strings_Builder_Write.fn
  dsimp only
  rw [copyCheck_at, bytesL_len]
  exact write_at k S acc s hs _ rfl (fun S => K ((s.size : Int), (), ()) S)
theorem Len_at (k : Nat) (S : List LV) (b : ByteArray) (K : Int × Unit → List LV → Option R) : G.strings_Builder_Len.fn k ((S.length, 0), ()) (bldS S (some b)) K = K ((b.size : Int), ()) (bldS S (some b)) := by
  unfold G.strings_Builder_Len.fn
  dsimp only
  rw [bldS_at]
  have : ∀ (K' : List LV → Option R), ldSl 1 (bldC S.length (some b)) (0 + 1) K' = K' (bytesL b) := fun K' => rfl
  rw [this, bytesL_len]
theorem String_at (k : Nat) (S : List LV) (b : ByteArray) (h0 : 0 < b.size) (K : ByteArray × Unit → List LV → Option R) : H.bString.fn k ((S.length, 0), ()) (bldS S (some b)) K = K (b, ()) (S ++ [.any]) := by
  unfold H.bString.fn bsF
  have e : (bldS S (some b)).getD S.length .any = .obj H.builderT (bldC S.length (some b)) := by simp [List.getD_eq_getElem?_getD]
  rw [e]
  unfold bldC
  dsimp only
  have e2 : strB (bytesL b) = some b.data.toList := strB_map _
  have e3 : (bytesL b).isEmpty = false := by
    have := bytesL_len b
    cases h : bytesL b with
    | nil => rw [h] at this; simp at this; omega
    | cons => rfl
  rw [e2, e3, setLast]
  rfl
end
end Go.Lm

/- The text of a result. -/
set_option maxRecDepth 100000
namespace Go.Lm
section
variable {R : Type}
def itoaS (n : Int) : ByteArray := ⟨(Lib.itoa n).toArray⟩
abbrev HasPow (S : List LV) : Prop := HasGlob S H.powG H.powA
theorem Itoa_at (k : Nat) {S : List LV} (h : HasPow S) (n : Int) (h0 : -9223372036854775808 ≤ n) (h1 : n ≤ 9223372036854775807) (K : ByteArray × Unit → List LV → Option R) : H.Itoa.fn k (n, ()) S K = K (itoaS n, ()) S := by
  unfold H.Itoa.fn itoaF
  have hok : H.ItoaOk S n := ⟨h, h0, h1⟩
  rw [show (Classical.propDecidable (H.ItoaOk S (n, ()).1)).decide = true from @decide_eq_true _ (Classical.propDecidable _) hok]
  rfl
def headS (x : Res) : ByteArray := (((((bs [99, 111, 100, 101, 32] ++ itoaS x.code) ++ bs [32]) ++ itoaS x.cmd) ++ bs [10, 116, 101, 120, 116, 32]) ++ itoaS (x.text.size : Int)) ++ bs [10] ++ x.text
def fileLineS (f : File) : ByteArray := ((((bs [102, 105, 108, 101, 32] ++ f.p) ++ bs [32]) ++ signS f.r) ++ bs [32]) ++ itoaS (f.b.size : Int) ++ bs [10]
def filesT (l : List File) (h : ByteArray) : Nat → ByteArray
  | 0 => h
  | i + 1 => filesT l h i ++ ((fileLineS (l.getD i .zero) ++ (l.getD i .zero).b) ++ bs [10])
def looksT (l : List Look) (h : ByteArray) : Nat → ByteArray
  | 0 => h
  | i + 1 => looksT l h i ++ lookLineS (l.getD i .zero)
def textS (x : Res) : ByteArray := looksT x.looks (filesT x.files (headS x) x.files.length) x.looks.length
def resTextS (x : Res) : ByteArray × Int := match checkResS x == 0 with
  | false => (bs [], checkResS x)
  | true => match decide ((textS x).size > 4000000) with
    | true => (bs [], 2)
    | false => (textS x, 0)
/-- What is known of a right result. -/
structure ResRight (x : Res) : Prop where
  code : 0 ≤ x.code ∧ x.code ≤ 999999
  cmd : 0 ≤ x.cmd ∧ x.cmd ≤ 50
  text : x.text.size ≤ 100000
  files : x.files.length ≤ 1000 ∧ ∀ f ∈ x.files, f.p.size ≤ 200 ∧ f.b.size ≤ 100000
  looks : x.looks.length ≤ 4000 ∧ ∀ y ∈ x.looks, y.p.size ≤ 200 ∧ y.d.size ≤ 16
end
end Go.Lm

/- What a right result is known to be. -/
set_option maxRecDepth 100000
namespace Go.Lm
section
variable {R : Type}
theorem scan_zero {step : Nat → Option Int} {fin : Int} (hs : ∀ j r, step j = some r → r ≠ 0) : ∀ (d i : Nat), scan step fin d i = 0 → ∀ j, i ≤ j → j < i + d → step j = none
  | 0, i, _, j, h1, h2 => by omega
  | d + 1, i, h, j, h1, h2 => by
    simp only [scan] at h
    cases hi : step i with
    | some r => rw [hi] at h; exact absurd h (hs i r hi)
    | none =>
      rw [hi] at h
      by_cases e : j = i
      · subst e; exact hi
      · exact scan_zero hs d (i + 1) h j (by omega) (by omega)
theorem path_size {p : ByteArray} (h : isPathS p = true) : p.size ≤ 200 := by
  unfold isPathS at h
  simp only [Bool.and_eq_true, decide_eq_true_eq] at h
  exact h.2.1
theorem dig_size {d : ByteArray} (h : isDigestS d = true) : d.size ≤ 16 := by
  unfold isDigestS at h
  rw [Bool.and_eq_true] at h
  have := eq_of_beq h.2
  omega
theorem fileS_none {l : List File} {i : Nat} (h : fileS l i = none) : (l.getD i .zero).p.size ≤ 200 ∧ (l.getD i .zero).b.size ≤ 100000 := by
  unfold fileS at h
  split at h
  · cases h
  · rename_i h1
    split at h
    · cases h
    · rename_i h2
      have := of_decide_eq_false h2
      exact ⟨path_size (by simpa using h1), by omega⟩
theorem fileS_ne {l : List File} (j : Nat) (r : Int) (h : fileS l j = some r) : r ≠ 0 := by
  unfold fileS at h
  split at h
  · cases h; decide
  · split at h
    · cases h; decide
    · split at h
      · cases h; decide
      · cases h
theorem lookS_ne {l : List Look} (j : Nat) (r : Int) (h : lookS l j = some r) : r ≠ 0 := by
  unfold lookS at h
  dsimp only at h
  split at h
  · cases h; decide
  · split at h
    · cases h; decide
    · split at h
      · cases h; decide
      · cases h
theorem lookS_none {l : List Look} {i : Nat} (h : lookS l i = none) : (l.getD i .zero).p.size ≤ 200 ∧ (l.getD i .zero).d.size ≤ 16 := by
  unfold lookS at h
  dsimp only at h
  split at h
  · cases h
  · rename_i h1
    split at h
    · cases h
    · rename_i h2
      refine ⟨path_size (by simpa using h1), ?_⟩
      rw [Bool.or_eq_false_iff] at h2
      cases he : strEq (l.getD i .zero).d (bs []) with
      | true => rw [(strEq_iff _ _).1 he]; decide
      | false =>
        have h3 := h2.1
        change (!(strEq (l.getD i .zero).d (bs [])) && !(isDigestS (l.getD i .zero).d)) = false at h3
        rw [he] at h3
        exact dig_size (by simpa using h3)
theorem mem_getD {α : Type} {l : List α} {x z : α} (h : x ∈ l) : ∃ i, i < l.length ∧ l.getD i z = x := by
  obtain ⟨i, hi, e⟩ := List.getElem_of_mem h
  exact ⟨i, hi, by rw [List.getD_eq_getElem?_getD, List.getElem?_eq_getElem hi]; exact e⟩
theorem res_right {x : Res} (h : checkResS x = 0) : ResRight x := by
  unfold checkResS at h
  split at h
  · cases h
  · rename_i h1
    split at h
    · cases h
    · rename_i h2
      split at h
      · cases h
      · unfold tailS at h
        split at h
        · rename_i h3; rw [h] at h3; cases h3
        · rename_i h3
          have hf : checkFilesS x.files = 0 := eq_of_beq h3
          split at h
          · cases h
          · unfold withinB at h1
            simp only [Bool.and_eq_true, decide_eq_true_eq] at h1
            have := of_decide_eq_false h2
            refine ⟨⟨h1.1.1, h1.1.2⟩, ⟨h1.2.1, h1.2.2⟩, by omega, ?_, checkLooks_len h, ?_⟩
            · unfold checkFilesS at hf
              split at hf
              · cases hf
              · rename_i h4
                have h4 := of_decide_eq_false h4
                refine ⟨by omega, fun f hfm => ?_⟩
                obtain ⟨i, hi, rfl⟩ := mem_getD (z := File.zero) hfm
                exact fileS_none (scan_zero fileS_ne _ _ hf i (Nat.zero_le _) (by omega))
            · intro y hy
              unfold checkLooksS at h
              split at h
              · cases h
              · obtain ⟨i, hi, rfl⟩ := mem_getD (z := Look.zero) hy
                exact lookS_none (scan_zero lookS_ne _ _ h i (Nat.zero_le _) (by omega))
theorem itoa_size (n : Int) (h0 : -9223372036854775808 ≤ n) (h1 : n ≤ 9223372036854775807) : (itoaS n).size ≤ 21 := by
  have := Lib.itoa_length_le n h0 h1
  unfold itoaS
  simpa [ByteArray.size] using this
end
end Go.Lm

/- The text of a result: sizes; the reference's function. -/
set_option maxRecDepth 100000
namespace Go.Lm
section
variable {R : Type}
theorem fileLine_size (f : File) (hp : f.p.size ≤ 200) (hb : f.b.size ≤ 100000) : (fileLineS f).size ≤ 230 := by
  have h1 := itoa_size (f.b.size : Int) (by omega) (by omega)
  have h2 := signS_size f.r
  have e1 : (bs [102, 105, 108, 101, 32]).size = 5 := rfl
  have e2 : (bs [32]).size = 1 := rfl
  have e3 : (bs [10]).size = 1 := rfl
  unfold fileLineS
  simp only [app_size]
  omega
theorem files_size {l : List File} (hl : ∀ f ∈ l, f.p.size ≤ 200 ∧ f.b.size ≤ 100000) (h : ByteArray) : ∀ i, i ≤ l.length → (filesT l h i).size ≤ h.size + i * 100231
  | 0, _ => by simp [filesT]
  | i + 1, hi => by
    have ih := files_size hl h i (by omega)
    have hm := hl _ (file_mem l i (by omega))
    have h1 := fileLine_size _ hm.1 hm.2
    have e3 : (bs [10]).size = 1 := rfl
    simp only [filesT, app_size]
    omega
theorem line_size (y : Look) (hp : y.p.size ≤ 200) (hd : y.d.size ≤ 16) : (lookLineS y).size ≤ 230 := by
  have h2 := signS_size y.r
  have e1 : (bs [108, 111, 111, 107, 32]).size = 5 := rfl
  have e2 : (bs [32]).size = 1 := rfl
  have e3 : (bs [10]).size = 1 := rfl
  have h3 : (digS y.d).size ≤ 16 := by
    unfold digS
    split
    · decide
    · exact hd
  unfold lookLineS
  simp only [app_size]
  omega
theorem look_mem (l : List Look) (i : Nat) (h : i < l.length) : l.getD i .zero ∈ l := by
  rw [List.getD_eq_getElem?_getD, List.getElem?_eq_getElem h]; exact List.getElem_mem h
theorem looks_size {l : List Look} (hl : ∀ y ∈ l, y.p.size ≤ 200 ∧ y.d.size ≤ 16) (h : ByteArray) : ∀ i, i ≤ l.length → (looksT l h i).size ≤ h.size + i * 230
  | 0, _ => by simp [looksT]
  | i + 1, hi => by
    have ih := looks_size hl h i (by omega)
    have hm := hl _ (look_mem l i (by omega))
    have h1 := line_size _ hm.1 hm.2
    simp only [looksT, app_size]
    omega
theorem head_size {x : Res} (r : ResRight x) : (headS x).size ≤ 100100 := by
  have h1 := itoa_size x.code (by have := r.code; omega) (by have := r.code; omega)
  have h2 := itoa_size x.cmd (by have := r.cmd; omega) (by have := r.cmd; omega)
  have h3 := itoa_size (x.text.size : Int) (by omega) (by have := r.text; omega)
  have e1 : (bs [99, 111, 100, 101, 32]).size = 5 := rfl
  have e2 : (bs [32]).size = 1 := rfl
  have e3 : (bs [10]).size = 1 := rfl
  have e4 : (bs [10, 116, 101, 120, 116, 32]).size = 6 := rfl
  have := r.text
  unfold headS
  simp only [app_size]
  omega
theorem head_pos (x : Res) : 0 < (headS x).size := by
  have e1 : (bs [99, 111, 100, 101, 32]).size = 5 := rfl
  unfold headS
  simp only [app_size]
  omega
theorem filesT_pos {l : List File} {h : ByteArray} (h0 : 0 < h.size) : ∀ i, 0 < (filesT l h i).size
  | 0 => h0
  | i + 1 => by simp only [filesT, app_size]; have := filesT_pos (l := l) h0 i; omega
theorem looksT_pos {l : List Look} {h : ByteArray} (h0 : 0 < h.size) : ∀ i, 0 < (looksT l h i).size
  | 0 => h0
  | i + 1 => by simp only [looksT, app_size]; have := looksT_pos (l := l) h0 i; omega
theorem head_at (k : Nat) {x : Res} (r : ResRight x) {S : List LV} (hS : HasPow S) (K : ByteArray → List LV → Option R) :
    (H.Itoa.fn k (x.code, ()) S fun r1 S => catStr (bs [99, 111, 100, 101, 32]) r1.1 fun s2 => catStr s2 (bs [32]) fun s3 => H.Itoa.fn k (x.cmd, ()) S fun r4 S => catStr s3 r4.1 fun s5 => catStr s5 (bs [10, 116, 101, 120, 116, 32]) fun s6 => H.Itoa.fn k ((x.text.size : Int), ()) S fun r7 S => catStr s6 r7.1 fun s8 => catStr s8 (bs [10]) fun s9 => catStr s9 x.text fun s10 => K s10 S) = K (headS x) S := by
  have c1 := r.code; have c2 := r.cmd; have c3 := r.text
  have h1 := itoa_size x.code (by omega) (by omega)
  have h2 := itoa_size x.cmd (by omega) (by omega)
  have h3 := itoa_size (x.text.size : Int) (by omega) (by omega)
  have e1 : (bs [99, 111, 100, 101, 32]).size = 5 := rfl
  have e2 : (bs [32]).size = 1 := rfl
  have e3 : (bs [10]).size = 1 := rfl
  have e4 : (bs [10, 116, 101, 120, 116, 32]).size = 6 := rfl
  rw [Itoa_at k hS _ (by omega) (by omega)]
  dsimp only
  rw [catStr_le (by omega), catStr_le (by simp only [app_size]; omega), Itoa_at k hS _ (by omega) (by omega)]
  dsimp only
  rw [catStr_le (by simp only [app_size]; omega), catStr_le (by simp only [app_size]; omega), Itoa_at k hS _ (by omega) (by omega)]
  dsimp only
  rw [catStr_le (by simp only [app_size]; omega), catStr_le (by simp only [app_size]; omega), catStr_le (by simp only [app_size]; omega)]
  rfl
end
end Go.Lm

/- The text of a result: the reference's function. -/
set_option maxRecDepth 100000
namespace Go.Lm
section
variable {R : Type}
theorem asStr_at (s : ByteArray) (K : ByteArray → Option R) : asStr (LV.str s) K = K s := rfl
theorem ref_ResultTextOf {k : Nat} (hk : Many k) {x : Res} (r : ResRight x) {S : List LV} (hS : HasPow S) (K : ByteArray × Unit → List LV → Option R) : G.smithyardref5_ResultTextOf.fn k (x.tup, ()) S K = K (textS x, ()) S := by
  have hk' := hk
  unfold Many at hk'
  unfold G.smithyardref5_ResultTextOf.fn
  dsimp only
  refine (head_at k r hS (fun s10 S => rounds (G.smithyardref5_ResultTextOf.b0 k (fun (o29 : ((Int × ByteArray × List LV × List LV × Int × Unit) × ByteArray × Unit)) S => rounds (G.smithyardref5_ResultTextOf.b1 k (fun (o37 : (ByteArray × Unit)) S => K (o37.1, ()) S)) k ((o29.1.1, o29.1.2.1, o29.1.2.2.1, o29.1.2.2.2.1, o29.1.2.2.2.2.1, ()), o29.2.1, (0 : Int), ()) S)) k (x.tup, s10, (0 : Int), ()) S)).trans ?_
  have hh := head_size r
  have fz := fun i hi => files_size r.files.2 (headS x) i hi
  have lz := fun i hi => looks_size r.looks.2 (filesT x.files (headS x) x.files.length) i hi
  have c1 := r.files.1
  have c2 := r.looks.1
  refine (rounds_scan0 (fun i => (x.tup, filesT x.files (headS x) i, (i : Int), ())) S x.files.length k (fun _ => none) (K (textS x, ()) S) (fun rec i hi => ?_) (fun rec => ?_) (by omega)).trans (scan_none _ _ (fun _ _ _ => rfl))
  · have hm := r.files.2 _ (file_mem x.files i hi)
    have hz := fz i (by omega)
    unfold G.smithyardref5_ResultTextOf.b0
    dsimp only
    rw [List.length_map, lt_nat, ifB_pos hi, idxL_nat (by simpa using hi), file_get _ _ hi, File.mat]
    show asStr (.str _) _ = _
    rw [asStr_at]
    show asBool (.bool _) _ = _
    rw [asBool_bool]
    show asSl 1 (File.leaf _) _ = _
    rw [File.sl]
    have h1 := itoa_size ((x.files.getD i .zero).b.size : Int) (by omega) (by omega)
    have h2 := signS_size (x.files.getD i .zero).r
    have e1 : (bs [102, 105, 108, 101, 32]).size = 5 := rfl
    have e2 : (bs [32]).size = 1 := rfl
    have e3 : (bs [10]).size = 1 := rfl
    rw [catStr_le (by omega), catStr_le (by simp only [app_size]; omega), strOf_bytes, ref_sign]
    dsimp only
    rw [catStr_le (by simp only [app_size]; omega), catStr_le (by simp only [app_size]; omega), bytesL_len, Itoa_at k hS _ (by omega) (by omega)]
    dsimp only
    rw [catStr_le (by simp only [app_size]; omega), catStr_le (by simp only [app_size]; omega), catStr_le (by simp only [app_size]; omega), catStr_le (by simp only [app_size]; omega), catStr_le (by simp only [app_size]; omega)]
    unfold G.smithyardref5_ResultTextOf.q0
    dsimp only
    rw [wrap_succ (by omega)]
    rfl
  · unfold G.smithyardref5_ResultTextOf.b0
    dsimp only
    rw [List.length_map, lt_nat, ifB_neg (Nat.lt_irrefl _)]
    refine (rounds_scan0 (fun i => (x.tup, looksT x.looks (filesT x.files (headS x) x.files.length) i, (i : Int), ())) S x.looks.length k (fun _ => none) (K (textS x, ()) S) (fun rec i hi => ?_) (fun rec => ?_) (by omega)).trans (scan_none _ _ (fun _ _ _ => rfl))
    · have hm := r.looks.2 _ (look_mem x.looks i hi)
      have hz := lz i (by omega)
      have hf := fz x.files.length (Nat.le_refl _)
      have hl := line_size _ hm.1 hm.2
      unfold G.smithyardref5_ResultTextOf.b1
      dsimp only
      rw [List.length_map, lt_nat, ifB_pos hi, idxL_nat (by simpa using hi), look_get _ _ hi, Look.mat]
      show asStr (.str _) _ = _
      rw [asStr_at]
      show asStr (.str _) _ = _
      rw [asStr_at]
      show asBool (.bool _) _ = _
      rw [asBool_bool, ref_lookLine k (x.looks.getD i .zero) (by omega) (by omega)]
      dsimp only
      rw [catStr_le (by omega), wrap_succ (by omega)]
      rfl
    · unfold G.smithyardref5_ResultTextOf.b1
      dsimp only
      rw [List.length_map, lt_nat, ifB_neg (Nat.lt_irrefl _)]
      rfl
theorem ref_ResultText {k : Nat} (hk : Many k) (x : Res) (ok : ResOk x) {S : List LV} (hS : HasPow S) (K : ByteArray × Int × Unit → List LV → Option R) : G.smithyardref5_ResultText.fn k (x.tup, ()) S K = K ((resTextS x).1, (resTextS x).2, ()) S := by
  unfold G.smithyardref5_ResultText.fn resTextS
  dsimp only
  rw [ref_CheckResult hk x ok]
  dsimp only
  have h0 : ∀ n : Int, (n != 0) = !(n == 0) := fun n => rfl
  rw [h0]
  cases hc : checkResS x == 0 with
  | false => rfl
  | true =>
    rw [Bool.not_true, ifB_false, ref_ResultTextOf hk (res_right (eq_of_beq hc)) hS]
    dsimp only
    have e1 : decide (((textS x).size : Int) > (4000000 : Int)) = decide ((textS x).size > 4000000) := gt_nat _ 4000000
    rw [e1]
    cases decide ((textS x).size > 4000000) <;> rfl
end
end Go.Lm

/- The text of a result: the program's function. -/
set_option maxRecDepth 100000
namespace Go.Lm
section
variable {R : Type}
theorem body_at {k : Nat} (hk : Many k) {x : Res} (r : ResRight x) {S : List LV} (hS : HasPow S) (Jret : ByteArray × Int × Unit → List LV → Option R) :
    G.action_ResultText.q0 k Jret (x.tup, (S.length, 0), (), ()) (bldS S (some (headS x))) = match decide ((textS x).size > 4000000) with
      | true => Jret (bs [], 2, ()) (bldS S (some (textS x)))
      | false => Jret (textS x, 0, ()) (S ++ [.any]) := by
  have hk' := hk
  unfold Many at hk'
  have hh := head_size r
  have fz := fun i hi => files_size r.files.2 (headS x) i hi
  have lz := fun i hi => looks_size r.looks.2 (filesT x.files (headS x) x.files.length) i hi
  have c1 := r.files.1
  have c2 := r.looks.1
  unfold G.action_ResultText.q0 G.action_ResultText.q1
  dsimp only
  rw [List.length_map]
  refine (rounds_scan (fun i => (x.tup, (S.length, 0), (), x.files.map File.lv, (x.files.length : Int), (i : Int), ())) (fun i => bldS S (some (filesT x.files (headS x) i))) x.files.length (fun _ => none) _ (fun rec i hi => ?_) (fun rec => ?_) x.files.length 0 k (by omega) (by omega)).trans (scan_none _ _ (fun _ _ _ => rfl))
  · have hm := r.files.2 _ (file_mem x.files i hi)
    have hz := fz i (by omega)
    have hfl := fileLine_size _ hm.1 hm.2
    unfold G.action_ResultText.b0
    dsimp only
    rw [lt_nat, ifB_pos hi, idxL_nat (by simpa using hi), file_get _ _ hi, File.mat]
    show asStr (.str _) _ = _
    rw [asStr_at]
    show asBool (.bool _) _ = _
    rw [asBool_bool]
    show asSl 1 (File.leaf _) _ = _
    rw [File.sl]
    have h1 := itoa_size ((x.files.getD i .zero).b.size : Int) (by omega) (by omega)
    have h2 := signS_size (x.files.getD i .zero).r
    have e1 : (bs [102, 105, 108, 101, 32]).size = 5 := rfl
    have e2 : (bs [32]).size = 1 := rfl
    have e3 : (bs [10]).size = 1 := rfl
    rw [catStr_le (by omega), catStr_le (by simp only [app_size]; omega), prog_runText]
    dsimp only
    rw [catStr_le (by simp only [app_size]; omega), catStr_le (by simp only [app_size]; omega), bytesL_len, Itoa_at k (hS.app _) _ (by omega) (by omega)]
    dsimp only
    rw [catStr_le (by simp only [app_size]; omega), catStr_le (by simp only [app_size]; omega)]
    show G.strings_Builder_WriteString.fn k ((S.length, 0), fileLineS (x.files.getD i .zero), ()) _ _ = _
    rw [WriteString_at k S _ _ (by show (filesT x.files (headS x) i).size + _ ≤ _; omega)]
    rw [Write_at k S _ _ (by show (filesT x.files (headS x) i ++ _).size + _ ≤ _; rw [app_size]; omega)]
    rw [WriteString_at k S _ _ (by show ((filesT x.files (headS x) i ++ _) ++ _).size + _ ≤ _; rw [app_size, app_size]; omega), wrap_succ (by omega)]
    have e4 : accB (some (accB (some (accB (some (filesT x.files (headS x) i)) ++ fileLineS (x.files.getD i .zero))) ++ (x.files.getD i .zero).b)) ++ bs [10] = filesT x.files (headS x) (i + 1) := by
      show ((filesT x.files (headS x) i ++ fileLineS (x.files.getD i .zero)) ++ (x.files.getD i .zero).b) ++ bs [10] = _
      simp only [filesT, ByteArray.append_assoc]
    rw [e4]
  · unfold G.action_ResultText.b0
    dsimp only
    rw [lt_nat, ifB_neg (Nat.lt_irrefl _), List.length_map]
    refine (rounds_scan (fun i => ((S.length, 0), x.looks.map Look.lv, (x.looks.length : Int), (i : Int), ())) (fun i => bldS S (some (looksT x.looks (filesT x.files (headS x) x.files.length) i))) x.looks.length (fun _ => none) _ (fun rec i hi => ?_) (fun rec => ?_) x.looks.length 0 k (by omega) (by omega)).trans (scan_none _ _ (fun _ _ _ => rfl))
    · have hm := r.looks.2 _ (look_mem x.looks i hi)
      have hz := lz i (by omega)
      have hf := fz x.files.length (Nat.le_refl _)
      have hl := line_size _ hm.1 hm.2
      unfold G.action_ResultText.b1
      dsimp only
      rw [lt_nat, ifB_pos hi, idxL_nat (by simpa using hi), look_get _ _ hi, Look.mat]
      show asStr (.str _) _ = _
      rw [asStr_at]
      show asStr (.str _) _ = _
      rw [asStr_at]
      show asBool (.bool _) _ = _
      rw [asBool_bool, prog_lookText k (x.looks.getD i .zero) (by omega) (by omega)]
      dsimp only
      rw [WriteString_at k S _ _ (by show (looksT x.looks (filesT x.files (headS x) x.files.length) i).size + _ ≤ _; omega), wrap_succ (by omega)]
      rfl
    · unfold G.action_ResultText.b1
      dsimp only
      rw [lt_nat, ifB_neg (Nat.lt_irrefl _), Len_at]
      dsimp only
      have e1 : decide (((textS x).size : Int) > (4000000 : Int)) = decide ((textS x).size > 4000000) := gt_nat _ 4000000
      show ifB (decide (((textS x).size : Int) > (4000000 : Int))) _ _ = _
      rw [e1]
      cases decide ((textS x).size > 4000000) with
      | true => rfl
      | false =>
        rw [ifB_false, String_at k S _ (looksT_pos (filesT_pos (head_pos x) _) _)]
        rfl
theorem prog_ResultText0 {k : Nat} (hk : Many k) (x : Res) (ok : ResOk x) {S : List LV} (hS : HasPow S) : ∃ G', ∀ {R : Type} (K : ByteArray × Int × Unit → List LV → Option R), G.action_ResultText.fn0 k (x.tup, ()) S K = K ((resTextS x).1, (resTextS x).2, ()) (S ++ G') := by
  have h0 : ∀ n : Int, (n != 0) = !(n == 0) := fun n => rfl
  cases hc : checkResS x == 0 with
  | false =>
    refine ⟨[], fun {R} K => ?_⟩
    unfold G.action_ResultText.fn0 resTextS
    dsimp only
    rw [prog_CheckResult hk x ok]
    dsimp only
    rw [h0, hc, List.append_nil]
    rfl
  | true =>
    have r := res_right (eq_of_beq hc)
    have key : ∀ {R : Type} (K : ByteArray × Int × Unit → List LV → Option R), G.action_ResultText.fn0 k (x.tup, ()) S K = match decide ((textS x).size > 4000000) with
        | true => K (bs [], 2, ()) (bldS S (some (textS x)))
        | false => K (textS x, 0, ()) (S ++ [.any]) := fun {R} K => by
      unfold G.action_ResultText.fn0
      dsimp only
      rw [prog_CheckResult hk x ok]
      dsimp only
      rw [h0, hc, Bool.not_true, ifB_false]
      unfold newObj
      dsimp only
      refine Eq.trans (head_at k r (S := bldS S none) (hS.app _) (fun s12 S' => G.strings_Builder_WriteString.fn k ((S.length, 0), s12, ()) S' fun r13 S2 => G.action_ResultText.q0 k (fun (o42 : (ByteArray × Int × Unit)) S => K (o42.1, o42.2.1, ()) S) (x.tup, (S.length, 0), (()), ()) S2)) ?_
      have hh := head_size r
      have e0 : (accB none).size = 0 := rfl
      rw [WriteString_at k S none _ (by omega)]
      have e5 : accB none ++ headS x = headS x := by
        apply ba_ext
        show ((bs [] : ByteArray) ++ headS x).data.toList = _
        simp
        rfl
      rw [e5, body_at hk r hS]
    cases hd : decide ((textS x).size > 4000000) with
    | true =>
      refine ⟨[.obj H.builderT (bldC S.length (some (textS x)))], fun {R} K => ?_⟩
      rw [key, hd]
      unfold resTextS
      rw [hc, hd]
    | false =>
      refine ⟨[.any], fun {R} K => ?_⟩
      rw [key, hd]
      unfold resTextS
      rw [hc, hd]
theorem prog_ResultText {k : Nat} (hk : Many k) (x : Res) (ok : ResOk x) {S : List LV} (hS : HasPow S) (K : ByteArray × Int × Unit → List LV → Option R) : G.action_ResultText.fn k (x.tup, ()) S K = K ((resTextS x).1, (resTextS x).2, ()) S := by
  obtain ⟨G', h⟩ := prog_ResultText0 hk x ok hS
  exact popK_at (h _) rfl
end
end Go.Lm

/- The law ResultsMatchSpec's function answers true. -/
set_option maxRecDepth 100000
namespace Go.Lm
section
variable {R : Type}
def Res.cp (x : Res) : Res := ⟨x.code, x.text, x.files.map File.cp, x.looks, x.cmd⟩
theorem cp_filesT (l : List File) (h : ByteArray) : ∀ i, filesT (l.map File.cp) h i = filesT l h i
  | 0 => rfl
  | i + 1 => by
    simp only [filesT]
    rw [cp_filesT l h i]
    unfold fileLineS
    rw [cp_p, cp_b, cp_r]
theorem cp_checkRes (x : Res) : checkResS x.cp = checkResS x := by
  unfold checkResS tailS Res.cp
  simp only [cp_check, List.length_map]
theorem cp_textS (x : Res) : textS x.cp = textS x := by
  have hh : headS x.cp = headS x := rfl
  unfold textS
  rw [hh]
  unfold Res.cp
  simp only [cp_filesT, List.length_map]
theorem cp_resText (x : Res) : resTextS x.cp = resTextS x := by
  unfold resTextS
  rw [cp_checkRes, cp_textS]
theorem law2 {k : Nat} (hk : Many k) (x : Res) (hf : x.files.length * 48 ≤ 140737488355328) (hl : x.looks.length * 40 ≤ 140737488355328) (ok : ResOk x) {S : List LV} (hS : HasPow S) (K : Bool × Unit → List LV → Option R) :
    G.smithyardlaw5_ResultsMatchSpec.fn k (x.tup, ()) S K = K (true, ()) S := by
  have okc : ResOk x.cp := ⟨ok.t, cp_ok ok.f, ok.d⟩
  unfold G.smithyardlaw5_ResultsMatchSpec.fn G.smithyardref5_CopyResult.fn
  dsimp only
  rw [ref_CopyFiles hk x.files hf ok.f]
  dsimp only
  unfold G.slices_Clone_s_api_Look_api_Look_c.fn handF
  rw [cloneL (by rw [List.length_map]; exact hl) (by rw [List.length_map]; omega)]
  dsimp only
  rw [prog_ResultText hk x ok hS]
  dsimp only
  show G.smithyardref5_ResultText.fn k (x.cp.tup, ()) S _ = _
  rw [ref_ResultText hk x.cp okc hS, cp_resText]
  dsimp only
  rw [prog_CheckResult hk x ok]
  dsimp only
  show G.smithyardref5_CheckResult.fn k (x.cp.tup, ()) S _ = _
  rw [ref_CheckResult hk x.cp okc, cp_checkRes]
  dsimp only
  rw [beq_self_eq_true, ifB_true, (strEq_iff _ _).2 rfl, ifB_true, beq_self_eq_true, ifB_true]
  unfold G.smithyardref5_SameResult.fn
  dsimp only
  rw [beq_self_eq_true, ifB_true, (strEq_iff _ _).2 rfl, ifB_true, ref_SameFiles hk x.files ok.f]
  dsimp only
  rw [ifB_true, ref_Equal hk _ _ (by omega), eqLooks_refl]
  dsimp only
  rw [ifB_true, beq_self_eq_true, ifB_true, prog_awake hk]
end
end Go.Lm
