/- Orders of strings, searching in order; files. -/
import Derived.Test.YtnapepffpbbkoaaGreatDoorLmU2
set_option maxRecDepth 100000
namespace Go.Lm
section
variable {R : Type}
/-! ### The order of strings -/
theorem less_irrefl : ∀ (a : List UInt8), Op.bytesLess a a = false
  | [] => rfl
  | x :: a => by simp [Op.bytesLess, less_irrefl a]
theorem less_trans : ∀ (a b c : List UInt8), Op.bytesLess a b = true → Op.bytesLess b c = true → Op.bytesLess a c = true
  | _, [], _, h, _ => by cases ‹List UInt8› <;> simp [Op.bytesLess] at h
  | _, _ :: _, [], _, h => by simp [Op.bytesLess] at h
  | [], _ :: _, _ :: _, _, _ => rfl
  | x :: a, y :: b, z :: c, h1, h2 => by
    simp only [Op.bytesLess, Bool.or_eq_true, Bool.and_eq_true, decide_eq_true_eq, beq_iff_eq] at *
    rcases h1 with h1 | ⟨rfl, h1⟩ <;> rcases h2 with h2 | ⟨rfl, h2⟩
    · exact .inl (UInt8.lt_trans h1 h2)
    · exact .inl h1
    · exact .inl h2
    · exact .inr ⟨rfl, less_trans a b c h1 h2⟩
theorem less_total : ∀ (a b : List UInt8), Op.bytesLess a b = false → a ≠ b → Op.bytesLess b a = true
  | [], [], _, h => absurd rfl h
  | [], _ :: _, h, _ => by simp [Op.bytesLess] at h
  | _ :: _, [], _, _ => rfl
  | x :: a, y :: b, h, hne => by
    simp only [Op.bytesLess, Bool.or_eq_false_iff, Bool.and_eq_false_iff, decide_eq_false_iff_not, beq_eq_false_iff_ne] at h
    simp only [Op.bytesLess, Bool.or_eq_true, Bool.and_eq_true, decide_eq_true_eq, beq_iff_eq]
    by_cases e : x = y
    · subst e
      have h2 := h.2.resolve_left (fun h => h rfl)
      exact .inr ⟨rfl, less_total a b h2 (fun e => hne (by rw [e]))⟩
    · left
      have h1 : ¬ x.toNat < y.toNat := fun h' => h.1 (UInt8.lt_iff_toNat_lt.2 h')
      have h2 : x.toNat ≠ y.toNat := fun h' => e (UInt8.toNat_inj.1 h')
      exact UInt8.lt_iff_toNat_lt.2 (by omega)
theorem strLt_less (a b : ByteArray) : strLt a b = Op.bytesLess a.data.toList b.data.toList := by unfold strLt; rw [baList, baList]
theorem strLt_irrefl (a : ByteArray) : strLt a a = false := by rw [strLt_less, less_irrefl]
theorem strLt_trans {a b c : ByteArray} (h : strLt a b = true) (h' : strLt b c = true) : strLt a c = true := by rw [strLt_less] at *; exact less_trans _ _ _ h h'
theorem ba_ext {a b : ByteArray} (h : a.data.toList = b.data.toList) : a = b := by
  have := Array.ext' h
  cases a; cases b; simp_all
theorem strLt_total {a b : ByteArray} (h : (strLt a b || strEq a b) = false) : strLt b a = true := by
  rw [Bool.or_eq_false_iff] at h
  rw [strLt_less] at *
  refine less_total _ _ h.1 (fun e => ?_)
  have := ba_ext e
  have h2 := (strEq_iff a b).2 this
  rw [h2] at h; cases h.2

/-! ### Files -/
structure File where
  p : ByteArray
  r : Bool
  b : ByteArray
  nil : Bool
  h : nil = true → b = bs []
def File.leaf (x : File) : LV := match x.nil with
  | true => .nilsl
  | false => .sl 1 (bytesL x.b)
def File.lv (x : File) : LV := .agg [.str x.p, .bool x.r, x.leaf]
def File.zero : File := ⟨bs [], false, bs [], true, fun _ => rfl⟩
theorem File.mat (x : File) (K : List LV → Option R) : mat 3 x.lv K = K [.str x.p, .bool x.r, x.leaf] := rfl
theorem File.sl (x : File) (K : List LV → Option R) : asSl 1 x.leaf K = K (bytesL x.b) := by
  unfold File.leaf
  cases h : x.nil with
  | true => rw [x.h h]; rfl
  | false => exact asSl_sl _ _ _
theorem bytesL_len (b : ByteArray) : (bytesL b).length = b.size := by unfold bytesL; rw [List.length_map, ba_len]
theorem file_get (l : List File) (i : Nat) (h : i < l.length) : (l.map File.lv).getD i .any = (l.getD i .zero).lv := by
  simp [List.getD_eq_getElem?_getD, h]
theorem file_mem (l : List File) (i : Nat) (h : i < l.length) : l.getD i .zero ∈ l := by
  rw [List.getD_eq_getElem?_getD, List.getElem?_eq_getElem h]; exact List.getElem_mem h
/-- In order: each path behind the one ahead of it. -/
def Rising (l : List File) : Prop := ∀ i j, i < j → j < l.length → strLt (l.getD i .zero).p (l.getD j .zero).p = true
theorem rising_of (l : List File) (h : ∀ i, 0 < i → i < l.length → strLt (l.getD (i - 1) .zero).p (l.getD i .zero).p = true) : Rising l := by
  intro i j hij hj
  obtain ⟨d, rfl⟩ : ∃ d, j = i + 1 + d := ⟨j - (i + 1), by omega⟩
  clear hij
  induction d with
  | zero => have := h (i + 1) (by omega) hj; simpa using this
  | succ d ih =>
    have h1 := ih (by omega)
    have h2 := h (i + 1 + (d + 1)) (by omega) hj
    rw [show i + 1 + (d + 1) - 1 = i + 1 + d by omega] at h2
    exact strLt_trans h1 h2
def memB (l : List File) (s : ByteArray) : Bool := l.any fun x => strEq x.p s
theorem memB_iff (l : List File) (s : ByteArray) : memB l s = true ↔ ∃ j, j < l.length ∧ (l.getD j .zero).p = s := by
  unfold memB
  rw [List.any_eq_true]
  constructor
  · rintro ⟨x, hx, he⟩
    obtain ⟨j, hj, rfl⟩ := List.mem_iff_getElem.1 hx
    exact ⟨j, hj, by rw [List.getD_eq_getElem?_getD, List.getElem?_eq_getElem hj]; exact (strEq_iff _ _).1 he⟩
  · rintro ⟨j, hj, he⟩
    exact ⟨_, file_mem l j hj, (strEq_iff _ _).2 he⟩

/-! ### Searching in what is in order -/
theorem cut_at (n : Nat) (less : Nat → Bool) (hd : ∀ i j, i < j → j < n → less j = true → less i = true) : ∃ c, c ≤ n ∧ (∀ i, i < c → less i = true) ∧ ∀ i, c ≤ i → i < n → less i = false := by
  induction n with
  | zero => exact ⟨0, Nat.le_refl _, fun i hi => absurd hi (by omega), fun i h1 h2 => absurd h2 (by omega)⟩
  | succ n ih =>
    obtain ⟨c, h1, h2, h3⟩ := ih (fun i j hij hj => hd i j hij (by omega))
    cases hl : less n with
    | true =>
      have : c = n := by
        rcases Nat.lt_or_ge c n with h | h
        · have := h3 c (Nat.le_refl _) h
          rw [hd c n h (by omega) hl] at this; cases this
        · omega
      subst this
      refine ⟨c + 1, Nat.le_refl _, fun i hi => ?_, fun i h4 h5 => absurd h5 (by omega)⟩
      by_cases e : i = c
      · subst e; exact hl
      · exact h2 i (by omega)
    | false =>
      refine ⟨c, by omega, h2, fun i h4 h5 => ?_⟩
      by_cases e : i = n
      · subst e; exact hl
      · exact h3 i h4 (by omega)
theorem rounds_cut {α : Type} {b : (α → List LV → Option R) → α → List LV → Option R} (x : Nat → Nat → α) (S : List LV) (n c : Nat) (less : Nat → Bool) (fin : Nat → Option R)
    (h1 : ∀ i, i < c → less i = true) (h2 : ∀ i, c ≤ i → i < n → less i = false) (_hc : c ≤ n)
    (hb : ∀ rec lo hi, lo < hi → hi ≤ n → b rec (x lo hi) S = match less ((lo + hi) / 2) with | true => rec (x ((lo + hi) / 2 + 1) hi) S | false => rec (x lo ((lo + hi) / 2)) S)
    (he : ∀ rec lo, b rec (x lo lo) S = fin lo) : ∀ (d lo hi fuel : Nat), lo ≤ c → c ≤ hi → hi ≤ n → hi - lo ≤ d → d < fuel → rounds b fuel (x lo hi) S = fin c
  | d, lo, hi, 0, _, _, _, _, h => by omega
  | 0, lo, hi, fuel + 1, a1, a2, a3, a4, _ => by
    have e1 : lo = c := by omega
    have e2 : hi = c := by omega
    subst e1; subst e2
    rw [rounds_succ, he]
  | d + 1, lo, hi, fuel + 1, a1, a2, a3, a4, a5 => by
    rw [rounds_succ]
    by_cases hlt : lo < hi
    · rw [hb _ lo hi hlt a3]
      cases hl : less ((lo + hi) / 2) with
      | true =>
        have : (lo + hi) / 2 < c := by
          rcases Nat.lt_or_ge ((lo + hi) / 2) c with h | h
          · exact h
          · have := h2 _ h (by omega); rw [hl] at this; cases this
        exact rounds_cut x S n c less fin h1 h2 _hc hb he d _ hi fuel (by omega) a2 a3 (by omega) (by omega)
      | false =>
        have : c ≤ (lo + hi) / 2 := by
          rcases Nat.lt_or_ge ((lo + hi) / 2) c with h | h
          · have := h1 _ h; rw [hl] at this; cases this
          · exact h
        exact rounds_cut x S n c less fin h1 h2 _hc hb he d lo _ fuel a1 this (by omega) (by omega) (by omega)
    · have : lo = hi := by omega
      subst this
      have : lo = c := by omega
      subst this
      rw [he]
/-- Where a path would lie. -/
theorem place {l : List File} (hl : Rising l) (s : ByteArray) : ∃ c, c ≤ l.length ∧ (∀ i, i < c → strLt (l.getD i .zero).p s = true) ∧ (∀ i, c ≤ i → i < l.length → strLt (l.getD i .zero).p s = false) ∧
    (memB l s = (decide (c < l.length) && strEq (l.getD c .zero).p s)) ∧ ∀ j, j < l.length → (l.getD j .zero).p = s → j = c := by
  obtain ⟨c, h1, h2, h3⟩ := cut_at l.length (fun i => strLt (l.getD i .zero).p s) (fun i j hij hj h => strLt_trans (hl i j hij hj) h)
  have huni : ∀ j, j < l.length → (l.getD j .zero).p = s → j = c := fun j hj he => by
    rcases Nat.lt_trichotomy j c with h | h | h
    · have := h2 j h
      simp only [he, strLt_irrefl] at this
      cases this
    · exact h
    · have h4 := h3 c (Nat.le_refl _) (by omega)
      have h5 := hl c j h hj
      rw [he] at h5
      simp only [h5] at h4
      cases h4
  refine ⟨c, h1, h2, h3, ?_, huni⟩
  rw [Bool.eq_iff_iff, memB_iff, Bool.and_eq_true, decide_eq_true_eq, strEq_iff]
  constructor
  · rintro ⟨j, hj, he⟩
    obtain rfl := huni j hj he
    exact ⟨hj, he⟩
  · rintro ⟨h4, h5⟩
    exact ⟨c, h4, h5⟩
theorem half (lo hi : Nat) (h : lo + hi < 9223372036854775807) : IntKind.wrap .i64 (Int.tdiv (IntKind.wrap .i64 ((lo : Int) + (hi : Int))) 2) = (((lo + hi) / 2 : Nat) : Int) := by
  rw [wrap_id (n := (lo : Int) + hi) (by omega) (by omega)]
  have : Int.tdiv ((lo : Int) + hi) 2 = (((lo + hi) / 2 : Nat) : Int) := by
    rw [Int.tdiv_eq_ediv_of_nonneg (by omega)]; omega
  rw [this, wrap_id (by omega) (by omega)]
/-! ### Clashes -/
def clashB (l : List File) (p : ByteArray) : Bool := scan (fun i => match (bt p i == 47) && memB l (p.extract 0 i) with | true => some true | false => none) false p.size 0
theorem mpAt_at {S : List LV} {m : List (LV × LV)} {T : List LV} (K : List (LV × LV) → Option R) : mpAt (S ++ .mp .str m :: T) S.length .str K = K m := by
  unfold mpAt
  have : (S ++ .mp .str m :: T).getD S.length .any = .mp .str m := by simp [List.getD_eq_getElem?_getD]
  rw [this]
  rfl
/-- The map of the paths of the first files. -/
def hasM (l : List File) : Nat → List (LV × LV)
  | 0 => []
  | i + 1 => mapPut (hasM l i) (.str (l.getD i .zero).p) (.bool true)
theorem mapGet_put (m : List (LV × LV)) (a b : ByteArray) (v : LV) (hm : ∀ e, e ∈ m → ∃ s, e.1 = .str s) : mapGet (mapPut m (.str a) v) (.str b) = match decide (a = b) with | true => some v | false => mapGet m (.str b) := by
  induction m with
  | nil => simp only [mapPut, mapGet, keyEq]; cases decide (a = b) <;> rfl
  | cons e m ih =>
    obtain ⟨k, y⟩ := e
    obtain ⟨s, hs⟩ := hm (k, y) (by simp)
    simp only at hs
    subst hs
    simp only [mapPut, keyEq]
    by_cases h1 : s = a
    · subst h1
      simp only [decide_true, mapGet, keyEq]
      by_cases h2 : s = b
      · subst h2; simp
      · simp [h2]
    · simp only [decide_eq_false h1, mapGet, keyEq]
      by_cases h2 : s = b
      · subst h2
        simp [Ne.symm h1]
      · simp only [decide_eq_false h2]
        exact ih (fun e he => hm e (by simp [he]))
theorem hasM_keys (l : List File) : ∀ i e, e ∈ hasM l i → ∃ s, e.1 = .str s := by
  intro i
  induction i with
  | zero => intro e he; simp [hasM] at he
  | succ i ih =>
    have : ∀ (m : List (LV × LV)) (a : ByteArray) (v : LV), (∀ e, e ∈ m → ∃ s, e.1 = LV.str s) → ∀ e, e ∈ mapPut m (.str a) v → ∃ s, e.1 = .str s := by
      intro m a v
      induction m with
      | nil => intro _ e he; simp [mapPut] at he; exact ⟨a, by rw [he]⟩
      | cons x m ih2 =>
        intro hm e he
        obtain ⟨k, y⟩ := x
        simp only [mapPut] at he
        split at he
        · rcases List.mem_cons.1 he with rfl | he
          · exact hm (k, y) (by simp)
          · exact hm e (by simp [he])
        · rcases List.mem_cons.1 he with rfl | he
          · exact hm (k, y) (by simp)
          · exact ih2 (fun e he => hm e (by simp [he])) e he
    exact this _ _ _ ih
theorem hasM_get (l : List File) (s : ByteArray) : ∀ i, i ≤ l.length → (mapGet (hasM l i) (.str s)).getD (.bool false) = .bool (memB (l.take i) s) := by
  intro i
  induction i with
  | zero => intro _; simp [hasM, mapGet, memB]
  | succ i ih =>
    intro hi
    simp only [hasM]
    rw [mapGet_put _ _ _ _ (hasM_keys l i)]
    have ht : l.take (i + 1) = l.take i ++ [l.getD i .zero] := by
      rw [List.take_add_one, List.getD_eq_getElem?_getD, List.getElem?_eq_getElem (by omega : i < l.length)]; rfl
    have hm : memB (l.take (i + 1)) s = (memB (l.take i) s || strEq (l.getD i .zero).p s) := by
      rw [ht]; unfold memB; rw [List.any_append]; simp
    rw [hm, strEq_dec]
    cases decide ((l.getD i .zero).p = s) with
    | true => simp
    | false => simp only [Bool.or_false]; exact ih (by omega)
theorem prog_clashes {k : Nat} (hk : Many k) (l : List File) (p : ByteArray) (hp : p.size ≤ 140737488355328) (S T : List LV) (K : Bool × Unit → List LV → Option R) :
    G.blob_clashes.fn k (S.length, p, ()) (S ++ .mp .str (hasM l l.length) :: T) K = K (clashB l p, ()) (S ++ .mp .str (hasM l l.length) :: T) := by
  unfold Many at hk
  unfold G.blob_clashes.fn clashB
  rw [← scan_map (fun b => K (b, ()) (S ++ .mp .str (hasM l l.length) :: T))]
  refine rounds_scan0 (fun i => (S.length, p, (p.size : Int), (i : Int), ())) _ p.size k _ _ (fun rec i hi => ?_) (fun rec => ?_) (by omega)
  · unfold G.blob_clashes.b0
    dsimp only
    rw [lt_nat, ifB_pos hi, idxStr_nat hi, slStr_nat (by omega), mpAt_at, hasM_get l _ _ (Nat.le_refl _), List.take_length, asBool_bool, wrap_succ (by omega)]
    generalize (bt p i == 47) = b1
    generalize memB l (p.extract 0 i) = b2
    cases b1 <;> cases b2 <;> rfl
  · unfold G.blob_clashes.b0
    dsimp only
    rw [lt_nat, ifB_neg (Nat.lt_irrefl _)]

/-! ### What is wrong with files -/
def sumB (l : List File) : Nat → Nat
  | 0 => 0
  | i + 1 => sumB l i + (l.getD i .zero).b.size
def fileS (l : List File) (i : Nat) : Option Int :=
  match !(isPathS (l.getD i .zero).p) with
  | true => some 3
  | false => match decide ((l.getD i .zero).b.size > 100000) with
    | true => some 2
    | false => match decide (0 < i) && (strLt (l.getD i .zero).p (l.getD (i - 1) .zero).p || strEq (l.getD i .zero).p (l.getD (i - 1) .zero).p) with
      | true => some 8
      | false => none
def clashS (l : List File) (i : Nat) : Option Int := match clashB l (l.getD i .zero).p with
  | true => some 12
  | false => none
def checkFilesS (l : List File) : Int := match decide (l.length > 1000) with
  | true => 2
  | false => scan (fileS l) (scan (clashS l) (match decide (sumB l l.length > 2000000) with | true => 2 | false => 0) l.length 0) l.length 0
theorem fileS_rising {l : List File} (h : ∀ i, i < l.length → fileS l i = none) : Rising l := by
  refine rising_of l (fun i h0 hi => strLt_total ?_)
  have := h i hi
  unfold fileS at this
  split at this
  · cases this
  · split at this
    · cases this
    · split at this
      · cases this
      · rename_i h2
        rw [Bool.and_eq_false_iff] at h2
        rcases h2 with h2 | h2
        · have := of_decide_eq_false h2; omega
        · exact h2
theorem scan_congr' {β : Type} {step : Nat → Option β} {fin fin' : β} : ∀ (d i : Nat), ((∀ j, i ≤ j → j < i + d → step j = none) → fin = fin') → scan step fin d i = scan step fin' d i
  | 0, i, h => h (fun j h1 h2 => absurd h2 (by omega))
  | d + 1, i, h => by
    simp only [scan]
    cases hs : step i with
    | some r => rfl
    | none =>
      simp only
      refine scan_congr' d (i + 1) (fun h2 => h (fun j h3 h4 => ?_))
      by_cases e : j = i
      · subst e; exact hs
      · exact h2 j (by omega) (by omega)
theorem sumB_le (l : List File) (hb : ∀ x ∈ l, x.b.size ≤ 140737488355328) : ∀ i, i ≤ l.length → sumB l i ≤ i * 140737488355328 := by
  intro i
  induction i with
  | zero => intro _; simp [sumB]
  | succ i ih =>
    intro hi
    have h1 := ih (by omega)
    have h2 := hb _ (file_mem l i (by omega))
    simp only [sumB]
    rw [Nat.succ_mul]; omega
structure FilesOk (l : List File) : Prop where
  n : l.length ≤ 140737488355328
  b : ∀ x ∈ l, x.b.size ≤ 140737488355328
  p : ∀ x ∈ l, x.p.size ≤ 140737488355328
theorem setLast (S : List LV) (a b : LV) : (S ++ [a]).set S.length b = S ++ [b] := by
  rw [List.set_append_right _ _ (Nat.le_refl _), Nat.sub_self]; rfl
theorem scan_pred {β : Type} {P : β → Prop} {step : Nat → Option β} {fin : β} (hs : ∀ j r, step j = some r → P r) (hf : P fin) : ∀ (d i : Nat), P (scan step fin d i)
  | 0, _ => hf
  | d + 1, i => by
    simp only [scan]
    cases h : step i with
    | some r => exact hs i r h
    | none => exact scan_pred hs hf d (i + 1)
theorem prog_CheckFiles0 {k : Nat} (hk : Many k) (l : List File) (ok : FilesOk l) (S : List LV) : ∃ G', ∀ {R : Type} (K : Int × Unit → List LV → Option R), G.blob_CheckFiles.fn0 k (l.map File.lv, ()) S K = K (checkFilesS l, ()) (S ++ G') := by
  have hk' := hk
  unfold Many at hk'
  unfold checkFilesS
  cases hc : decide (l.length > 1000) with
  | true =>
    refine ⟨[], fun {R} K => ?_⟩
    unfold G.blob_CheckFiles.fn0
    dsimp only
    rw [List.length_map, show ((1000 : Int)) = ((1000 : Nat) : Int) from rfl, gt_nat, hc, List.append_nil]; rfl
  | false =>
    have hlen : l.length ≤ 1000 := by have := of_decide_eq_false hc; omega
    let code : Int × List LV := scan (fun i => (fileS l i).map fun n => (n, S ++ [.mp .str (hasM l i)])) (scan (clashS l) (match decide (sumB l l.length > 2000000) with | true => 2 | false => 0) l.length 0, S ++ [.mp .str (hasM l l.length)]) l.length 0
    have hfst : code.1 = scan (fileS l) (scan (clashS l) (match decide (sumB l l.length > 2000000) with | true => 2 | false => 0) l.length 0) l.length 0 := by
      show Prod.fst (scan _ _ _ _) = _
      rw [← scan_map Prod.fst]
      refine scan_congr _ _ (fun j _ _ => ?_) rfl
      cases fileS l j <;> rfl
    have hsnd : ∃ G', code.2 = S ++ G' := scan_pred (P := fun r : Int × List LV => ∃ G', r.2 = S ++ G') (fun j r h => by
      cases hj : fileS l j with
      | none => rw [hj] at h; cases h
      | some n => rw [hj] at h; cases h; exact ⟨_, rfl⟩) ⟨_, rfl⟩ _ _
    obtain ⟨G', hG⟩ := hsnd
    refine ⟨G', fun {R} K => ?_⟩
    rw [← hG]
    dsimp only
    rw [← hfst]
    unfold G.blob_CheckFiles.fn0
    dsimp only
    rw [List.length_map, show ((1000 : Int)) = ((1000 : Nat) : Int) from rfl, gt_nat, hc, ifB_false]
    refine Eq.trans ?_ (scan_map (fun r : Int × List LV => K (r.1, ()) r.2) l.length 0)
    unfold newObj
    refine rounds_scan (fun i => (l.map File.lv, (sumB l i : Int), S.length, l.map File.lv, (l.length : Int), (i : Int), ())) (fun i => S ++ [.mp .str (hasM l i)]) l.length _ _ (fun rec i hi => ?_) (fun rec => ?_) l.length 0 k (by omega) (by omega)
    · unfold G.blob_CheckFiles.b0 G.blob_CheckFiles.q0 G.blob_CheckFiles.q1
      dsimp only
      have hsum := sumB_le l ok.b i (by omega)
      have hbi := ok.b _ (file_mem l i hi)
      have hw : IntKind.wrap .i64 ((sumB l i : Int) + ((bytesL (l.getD i .zero).b).length : Int)) = (sumB l (i + 1) : Int) := by
        rw [bytesL_len, wrap_id (by omega) (by omega)]; simp only [sumB]; omega
      rw [lt_nat, ifB_pos hi, idxL_nat (by simpa using hi), file_get _ _ hi, File.mat]
      simp only [List.getD_cons_zero, List.getD_cons_succ, asStr_str, asBool_bool, File.sl, hw, wrap_succ (show i < 9223372036854775807 by omega)]
      rw [prog_IsPath hk]
      dsimp only
      simp only [mpAt_at, setS, setLast]
      rw [bytesL_len, show ((100000 : Int)) = ((100000 : Nat) : Int) from rfl, gt_nat]
      have hprev : ∀ (h0 : 0 < i) (K' : LV → Option R), idxL (l.map File.lv) (IntKind.wrap .i64 ((i : Int) - 1)) K' = K' (l.getD (i - 1) .zero).lv := fun h0 K' => by
        rw [wrap_pred h0 (by omega), idxL_nat (by simp; omega), file_get _ _ (by omega)]
      have htail : ∀ (A J : Option R), ifB (decide ((i : Int) > 0)) (idxL (l.map File.lv) (IntKind.wrap .i64 ((i : Int) - 1)) fun v8 => asStr (leaf v8 0) fun s9 => ifB (strLt (l.getD i .zero).p s9 || strEq (l.getD i .zero).p s9) A J) J =
          match decide (0 < i) && (strLt (l.getD i .zero).p (l.getD (i - 1) .zero).p || strEq (l.getD i .zero).p (l.getD (i - 1) .zero).p) with | true => A | false => J := fun A J => by
        by_cases h0 : 0 < i
        · rw [ifB_pos (show (i : Int) > 0 by omega), hprev h0, decide_eq_true h0]
          show ifB _ _ _ = _
          simp only [Bool.true_and]
          cases (strLt (l.getD i .zero).p (l.getD (i - 1) .zero).p || strEq (l.getD i .zero).p (l.getD (i - 1) .zero).p) <;> rfl
        · rw [ifB_neg (show ¬ (i : Int) > 0 by omega), decide_eq_false h0]; rfl
      simp only [htail]
      unfold fileS
      generalize (decide (0 < i) && (strLt (l.getD i .zero).p (l.getD (i - 1) .zero).p || strEq (l.getD i .zero).p (l.getD (i - 1) .zero).p)) = b3
      generalize isPathS (l.getD i .zero).p = b1
      generalize decide ((l.getD i .zero).b.size > 100000) = b2
      cases b1 <;> cases b2 <;> cases b3 <;> rfl
    · unfold G.blob_CheckFiles.b0
      dsimp only
      rw [lt_nat, ifB_neg (Nat.lt_irrefl _), List.length_map]
      refine Eq.trans ?_ (scan_map (fun n => K (n, ()) (S ++ [.mp .str (hasM l l.length)])) (step := clashS l) l.length 0)
      refine rounds_scan0 (fun i => ((sumB l l.length : Int), S.length, l.map File.lv, (l.length : Int), (i : Int), ())) _ l.length k _ _ (fun rec i hi => ?_) (fun rec => ?_) (by omega)
      · unfold G.blob_CheckFiles.b1
        dsimp only
        rw [lt_nat, ifB_pos hi, idxL_nat (by simpa using hi), file_get _ _ hi, File.mat]
        simp only [List.getD_cons_zero, List.getD_cons_succ, asStr_str, asBool_bool, File.sl]
        rw [prog_clashes hk l _ (ok.p _ (file_mem l i hi)), wrap_succ (by omega)]
        unfold clashS
        cases clashB l (l.getD i .zero).p <;> rfl
      · unfold G.blob_CheckFiles.b1
        dsimp only
        rw [lt_nat, ifB_neg (Nat.lt_irrefl _), show ((2000000 : Int)) = ((2000000 : Nat) : Int) from rfl, gt_nat]
        cases decide (sumB l l.length > 2000000) <;> rfl
theorem prog_CheckFiles {k : Nat} (hk : Many k) (l : List File) (ok : FilesOk l) (S : List LV) (K : Int × Unit → List LV → Option R) : G.blob_CheckFiles.fn k (l.map File.lv, ()) S K = K (checkFilesS l, ()) S := by
  obtain ⟨G', h⟩ := prog_CheckFiles0 hk l ok S
  exact popK_at (h _) rfl
end
end Go.Lm
