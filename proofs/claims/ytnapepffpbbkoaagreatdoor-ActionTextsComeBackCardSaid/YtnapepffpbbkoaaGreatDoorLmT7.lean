/- What is written of an action is read as it was; the law. -/
import Derived.Test.YtnapepffpbbkoaaGreatDoorLmT6
import Derived.Test.YtnapepffpbbkoaaGreatDoorLmT
import Derived.Test.YtnapepffpbbkoaaGreatDoorLmO5
set_option maxRecDepth 100000
namespace Go.Lm
/-! ### bytes of words -/
theorem scan_trueC {p : Nat → Bool} {d : Nat} (h : scan (fun i => cond (p i) none (some false)) true d 0 = true) : ∀ j, j < d → p j = true := fun j hj => by
  have := (scan_true (fun j => by cases p j <;> simp) _ _ h).1 j (Nat.zero_le _) (by omega)
  cases hp : p j with
  | true => rfl
  | false => rw [hp] at this; cases this
theorem allB_bytes {lo hi : Int} {s : ByteArray} (h : allB lo hi s = true) : ∀ b ∈ toL s, lo ≤ (b.toNat : Int) ∧ (b.toNat : Int) ≤ hi := fun b hb => by
  obtain ⟨j, hj, e⟩ := bt_mem hb
  have := scan_trueC h j hj
  rw [e, Bool.and_eq_true, decide_eq_true_eq, decide_eq_true_eq] at this
  exact this
theorem word_word {w : ByteArray} (h : isWordS w = true) : Word w := by
  have hs := word_size h
  unfold isWordS at h
  rw [Bool.and_eq_true] at h
  have hb := allB_bytes h.1
  have hl := toL_len w
  refine ⟨fun e => by rw [e] at hl; simp at hl; omega, fun hm => ?_, fun hm => ?_⟩
  · have := hb 32 hm; revert this; decide
  · have := hb 10 hm; revert this; decide
theorem name_word {s : ByteArray} (h : isNameS s = true) : Word s := by
  have hs := name_size h
  unfold isNameS at h
  rw [Bool.and_eq_true] at h
  have hn := scan_trueC h.1
  have hl := toL_len s
  have not : ∀ d : UInt8, (smallB (d.toNat : Int) || (digitB (d.toNat : Int) || ((d.toNat : Int) == 95))) = false → d ∉ toL s := fun d hd hm => by
    obtain ⟨j, hj, e⟩ := bt_mem hm
    have := hn j hj
    unfold nameAt at this
    rw [e] at this
    rw [Bool.or_eq_false_iff] at hd
    rw [hd.1, hd.2, Bool.and_false] at this
    cases this
  exact ⟨fun e => by rw [e] at hl; simp at hl; omega, not 32 (by decide), not 10 (by decide)⟩
/-! ### one line -/
theorem cutB_at {c : UInt8} {s : ByteArray} {x r : Bs} (h : toL s = x ++ c :: r) (hx : c ∉ x) : cutB c s = (ofL x, ofL r, true, ()) := by
  unfold cutB
  rw [h, cutL_at r hx]
theorem cutB_none {c : UInt8} {s : ByteArray} (h : c ∉ toL s) : (cutB c s).2.2.1 = false := by
  unfold cutB
  rw [cutL_miss h]
theorem word_place : ∀ p : Fin 7, 1 ≤ p.1 → placeS (wordP p.1) = p.1 := by decide +kernel
theorem wordP_clean {p : Nat} (h1 : 1 ≤ p) (h6 : p ≤ 6) : (32 : UInt8) ∉ toL (wordP p) ∧ (10 : UInt8) ∉ toL (wordP p) := by
  rcases (show p = 1 ∨ p = 2 ∨ p = 3 ∨ p = 4 ∨ p = 5 ∨ p = 6 by omega) with rfl | rfl | rfl | rfl | rfl | rfl <;> decide +kernel
theorem readA_succ (n : Nat) (text : ByteArray) (a : Act) (last at_ : Nat) : readA (n + 1) text a last at_ = cond (strEq text (bs [])) (.ok (a, last, at_)) (cond ((cutB 10 text).2.2.1 && lineOk last (cutB 10 text).1)
      (readA n (cutB 10 text).2.1 (putA a (placeS (cutB 32 (cutB 10 text).1).1) (cutB 32 (cutB 10 text).1).2.1) (placeS (cutB 32 (cutB 10 text).1).1) (at_ + 1)) (.error (at_ + 1))) := rfl
theorem read_line {n : Nat} {text t' : ByteArray} {a : Act} {last at_ p : Nat} {rest : ByteArray} (h1 : 1 ≤ p) (h6 : p ≤ 6) (ht : toL text = (toL (wordP p) ++ 32 :: (toL rest ++ [10])) ++ toL t') (hr : (10 : UInt8) ∉ toL rest) (hn : nextOk last p = true) (ho : okA p rest = true) :
    readA (n + 1) text a last at_ = readA n t' (putA a p rest) p (at_ + 1) := by
  obtain ⟨w1, w2⟩ := wordP_clean h1 h6
  have hc := cutB_at (c := 10) (s := text) (x := toL (wordP p) ++ 32 :: toL rest) (r := toL t') (by rw [ht]; simp) (fun hm => by
    simp only [List.mem_append, List.mem_cons] at hm
    rcases hm with h | h | h
    · exact w2 h
    · revert h; decide
    · exact hr h)
  have hc2 := cutB_at (c := 32) (s := ofL (toL (wordP p) ++ 32 :: toL rest)) (x := toL (wordP p)) (r := toL rest) (by rw [toL_ofL]) w1
  have he : strEq text (bs []) = false := by
    rw [← Bool.not_eq_true, strEq_iff]
    intro e
    have := congrArg (fun s => (toL s).length) e
    simp only [ht, List.length_append, List.length_cons] at this
    have hz : (toL (bs [])).length = 0 := rfl
    omega
  have hp : placeS (wordP p) = p := word_place ⟨p, by omega⟩ h1
  rw [readA_succ, he, cond_false, hc]
  dsimp only
  unfold lineOk
  rw [hc2]
  dsimp only
  rw [ofL_toL, ofL_toL, ofL_toL, hp, hn, ho]
  rfl
theorem read_many {α : Type} {p : Nat} (h1 : 1 ≤ p) (h6 : p ≤ 6) (hpp : nextOk p p = true) (f : α → ByteArray) (body : α → ByteArray) : ∀ (l : List α), (∀ x ∈ l, toL (f x) = toL (wordP p) ++ 32 :: (toL (body x) ++ [10]) ∧ (10 : UInt8) ∉ toL (body x) ∧ okA p (body x) = true) →
    ∀ (text t' : ByteArray) (a : Act) (last at_ n : Nat), toL text = flatL f l ++ toL t' → (l ≠ [] → nextOk last p = true) → readA (n + l.length) text a last at_ = readA n t' (l.foldl (fun a x => putA a p (body x)) a) (cond l.isEmpty last p) (at_ + l.length)
  | [], _, text, t', a, last, at_, n, ht, _ => by
    rw [toL_inj (a := text) (b := t') ht]; rfl
  | x :: l, hl, text, t', a, last, at_, n, ht, hn => by
    obtain ⟨g1, g2, g3⟩ := hl x (by simp)
    have ht2 : toL text = (toL (wordP p) ++ 32 :: (toL (body x) ++ [10])) ++ toL (ofL (flatL f l ++ toL t')) := by
      rw [ht, toL_ofL, ← g1]
      unfold flatL
      simp
    rw [List.length_cons, show n + (l.length + 1) = (n + l.length) + 1 by omega, read_line h1 h6 ht2 g2 (hn (by simp)) g3]
    have ih := read_many h1 h6 hpp f body l (fun y hy => hl y (by simp [hy])) (ofL (flatL f l ++ toL t')) t' (putA a p (body x)) p (at_ + 1) n (by rw [toL_ofL]) (fun _ => hpp)
    rw [ih]
    have e : cond l.isEmpty p p = p := by cases l.isEmpty <;> rfl
    rw [e, show at_ + 1 + l.length = at_ + (l.length + 1) by omega]
    rfl
theorem fold_cmds : ∀ (l : List (List ByteArray)) (a : Act), (∀ c ∈ l, splitW 32 (joinS c) = c) → l.foldl (fun a c => putA a 2 (joinS c)) a = { a with cmds := a.cmds ++ l }
  | [], a, _ => by simp
  | c :: l, a, h => by
    have e : putA a 2 (joinS c) = { a with cmds := a.cmds ++ [splitW 32 (joinS c)] } := rfl
    rw [List.foldl_cons, e, h c (by simp), fold_cmds l _ (fun y hy => h y (by simp [hy]))]
    simp
def varB (x : AVar) : ByteArray := joinS [x.1, x.2]
theorem fold_vars : ∀ (l : List AVar) (a : Act), (∀ x ∈ l, varOf (varB x) = x) → l.foldl (fun a x => putA a 3 (varB x)) a = { a with vars := a.vars ++ l }
  | [], a, _ => by simp
  | c :: l, a, h => by
    have e : putA a 3 (varB c) = { a with vars := a.vars ++ [varOf (varB c)] } := rfl
    rw [List.foldl_cons, e, h c (by simp), fold_vars l _ (fun y hy => h y (by simp [hy]))]
    simp
theorem fold_needs : ∀ (l : List AVar) (a : Act), (∀ x ∈ l, varOf (varB x) = x) → l.foldl (fun a x => putA a 5 (varB x)) a = { a with needs := a.needs ++ l }
  | [], a, _ => by simp
  | c :: l, a, h => by
    have e : putA a 5 (varB c) = { a with needs := a.needs ++ [varOf (varB c)] } := rfl
    rw [List.foldl_cons, e, h c (by simp), fold_needs l _ (fun y hy => h y (by simp [hy]))]
    simp
theorem fold_outs : ∀ (l : List ByteArray) (a : Act), l.foldl (fun a x => putA a 4 x) a = { a with outs := a.outs ++ l }
  | [], a => by simp
  | c :: l, a => by
    have e : putA a 4 c = { a with outs := a.outs ++ [c] } := rfl
    rw [List.foldl_cons, e, fold_outs l _]
    simp
/-! ### the lines of a right action -/
theorem cmd_facts {c : List ByteArray} (h : cmdS c = 0) : (toL (doS c) = toL (wordP 2) ++ 32 :: (toL (joinS c) ++ [10]) ∧ (10 : UInt8) ∉ toL (joinS c) ∧ okA 2 (joinS c) = true) ∧ splitW 32 (joinS c) = c := by
  have hc := cmd_right h
  have hw : ∀ w ∈ c, Word w := fun w hw => word_word (hc.w w hw)
  have hne : c.map toL ≠ [] := fun e => by
    have h0 := hc.n0
    rw [List.map_eq_nil_iff] at e
    rw [e] at h0
    simp at h0
  have hsp : splitL 32 (toL (joinS c)) = c.map toL := by
    unfold joinS
    rw [toL_ofL]
    exact split_join 32 _ hne (fun l hl => by
      obtain ⟨w, hm, rfl⟩ := List.mem_map.1 hl
      exact (hw w hm).2.1)
  refine ⟨⟨ln2_L _ _, ?_, ?_⟩, ?_⟩
  · unfold joinS
    rw [toL_ofL]
    exact joinL_not 32 10 (by decide) _ (fun l hl => by
      obtain ⟨w, hm, rfl⟩ := List.mem_map.1 hl
      exact (hw w hm).2.2)
  · show noEmp (joinS c) = true
    unfold noEmp
    rw [hsp]
    have : (c.map toL).any List.isEmpty = false := by
      rw [List.any_eq_false]
      intro l hl
      obtain ⟨w, hm, rfl⟩ := List.mem_map.1 hl
      have := (hw w hm).1
      simpa using this
    rw [this]; rfl
  · unfold splitW
    rw [hsp, List.map_map]
    have : (ofL ∘ toL) = (id : ByteArray → ByteArray) := by funext x; exact ofL_toL x
    rw [this, List.map_id]
theorem varB_cut {x : AVar} (h : isNameS x.1 = true) : cutB 32 (varB x) = (x.1, x.2, true, ()) := by
  have hw := name_word h
  have := cutB_at (c := 32) (s := varB x) (x := toL x.1) (r := toL x.2) (by
    unfold varB
    rw [joinS_two, toL_app, toL_app]
    show (toL x.1 ++ [32]) ++ toL x.2 = _
    simp) hw.2.1
  rw [this, ofL_toL, ofL_toL]
theorem var_facts {x : AVar} (h : isNameS x.1 = true ∧ x.2.size ≤ 300 ∧ allB 32 126 x.2 = true) : (10 : UInt8) ∉ toL (varB x) ∧ varOk (varB x) = true ∧ varOf (varB x) = x := by
  have hw := name_word h.1
  have hv := allB_bytes h.2.2
  have hc := varB_cut h.1
  refine ⟨fun hm => ?_, ?_, ?_⟩
  · unfold varB at hm
    rw [joinS_two, toL_app, toL_app] at hm
    simp only [List.mem_append] at hm
    rcases hm with (h1 | h1) | h1
    · exact hw.2.2 h1
    · revert h1; decide
    · have := hv 10 h1; revert this; decide
  · unfold varOk
    rw [hc]
    dsimp only
    rw [Bool.true_and]
    have : strEq x.1 (bs []) = false := by
      rw [← Bool.not_eq_true, strEq_iff]
      intro e
      exact hw.1 (by rw [e]; rfl)
    rw [this]; rfl
  · unfold varOf
    rw [hc]
theorem var_line (l : List Nat) (x : AVar) : toL (lnS [bs l, x.1, x.2]) = toL (bs l) ++ 32 :: (toL (varB x) ++ [10]) := by
  rw [ln3_L]
  unfold varB
  rw [joinS_two, toL_app, toL_app]
  show _ = toL (bs l) ++ 32 :: (((toL x.1 ++ [32]) ++ toL x.2) ++ [10])
  simp
theorem one_word {s : ByteArray} (h : Word s) : oneS s = true := by
  unfold oneS
  rw [cutB_none h.2.1]
  have : strEq s (bs []) = false := by
    rw [← Bool.not_eq_true, strEq_iff]
    intro e
    exact h.1 (by rw [e]; rfl)
  rw [this]; rfl
theorem flat_len {α : Type} (f : α → ByteArray) : ∀ (l : List α), (∀ x ∈ l, 1 ≤ (f x).size) → l.length ≤ (flatL f l).length
  | [], _ => Nat.le_refl _
  | x :: l, h => by
    have ih := flat_len f l (fun y hy => h y (by simp [hy]))
    have h1 := h x (by simp)
    have e : (flatL f (x :: l)).length = (toL (f x)).length + (flatL f l).length := by
      unfold flatL; simp
    rw [e, toL_len, List.length_cons]
    omega
theorem ln_one (ws : List ByteArray) : 1 ≤ (lnS ws).size := by
  have e : (bs [10]).size = 1 := rfl
  unfold lnS
  rw [ByteArray.size_append]; omega
theorem text_small {a : Act} (r : ActRight a) : (textA a).size ≤ 2000000 := by
  have h1 : (textA1 a).size ≤ 1000 := (text_sizes r).t1
  have h2 := catN_size (f := doS) (z := []) (acc := textA1 a) (m := 30103) (fun c hc => (do_size (r.cmd c hc)).2) _ (Nat.le_refl _)
  have b2 : a.cmds.length * 30103 ≤ 50 * 30103 := Nat.mul_le_mul_right _ r.cmds.1
  have h3 := catN_size (f := varLn) (z := varZ) (acc := textA2 a) (m := 1000) (fun x hx => three_size (by decide) (var_sizes r.vars x hx).1 (var_sizes r.vars x hx).2) _ (Nat.le_refl _)
  have b3 : a.vars.length * 1000 ≤ 30 * 1000 := Nat.mul_le_mul_right _ (vars_right r.vars).1
  have h4 := catN_size (f := outLn) (z := bs []) (acc := textA3 a) (m := 1000) (fun x hx => two_size (by decide) (out_sizes r.outs x hx)) _ (Nat.le_refl _)
  have b4 : a.outs.length * 1000 ≤ 100 * 1000 := Nat.mul_le_mul_right _ (outs_right r.outs).1
  have h5 := catN_size (f := needLn) (z := varZ) (acc := textA4 a) (m := 1000) (fun x hx => three_size (by decide) (var_sizes r.needs x hx).1 (var_sizes r.needs x hx).2) _ (Nat.le_refl _)
  have b5 : a.needs.length * 1000 ≤ 30 * 1000 := Nat.mul_le_mul_right _ (vars_right r.needs).1
  have ht := r.time
  have hi := itoa_len a.time (by omega) (by omega)
  have h6 : (timeLn a.time).size ≤ 1000 := two_size (by decide) (by omega)
  have e2 : (textA2 a).size = (catN doS [] a.cmds (textA1 a) a.cmds.length).size := rfl
  have e3 : (textA3 a).size = (catN varLn varZ a.vars (textA2 a) a.vars.length).size := rfl
  have e4 : (textA4 a).size = (catN outLn (bs []) a.outs (textA3 a) a.outs.length).size := rfl
  have e5 : (textA5 a).size = (catN needLn varZ a.needs (textA4 a) a.needs.length).size := rfl
  unfold textA
  rw [ByteArray.size_append]
  omega
theorem upto6 (a : Act) : toL (textA a) = toL (toolLn a.tool) ++ (flatL doS a.cmds ++ (flatL varLn a.vars ++ (flatL outLn a.outs ++ (flatL needLn a.needs ++ toL (timeLn a.time))))) := by
  rw [textA_upto]
  unfold uptoL
  rw [decide_eq_false (show ¬ (6 = 0) by decide), decide_eq_true (show 6 = 6 from rfl)]
  simp only [cond_false, cond_true, List.append_assoc]
/-- What is written of a right action is read as the action. -/
theorem write_read {a : Act} (h : actS a = 0) : readActS (textA a) = (a, 0, 0) := by
  have r := act_right h
  have hs := text_small r
  unfold readActS
  rw [decide_eq_false (show ¬ (textA a).size > 2000000 by omega), cond_false]
  have hu := upto6 a
  have l1 := flat_len doS a.cmds (fun c _ => ln_one _)
  have l2 := flat_len varLn a.vars (fun c _ => ln_one _)
  have l3 := flat_len outLn a.outs (fun c _ => ln_one _)
  have l4 := flat_len needLn a.needs (fun c _ => ln_one _)
  have l5 : 1 ≤ (toolLn a.tool).size := ln_one _
  have l6 : 1 ≤ (timeLn a.time).size := ln_one _
  have hlen := congrArg List.length hu
  simp only [List.length_append, toL_len] at hlen
  obtain ⟨m, hm⟩ : ∃ m, (textA a).size + 1 = (((((m + 1) + 1) + a.needs.length) + a.outs.length) + a.vars.length) + a.cmds.length + 1 := ⟨(textA a).size + 1 - (a.needs.length + a.outs.length + a.vars.length + a.cmds.length + 3), by omega⟩
  rw [hm]
  have hd := digest_word r.tool
  have hc0 : a.cmds ≠ [] := fun e => by have := r.cmds.2; rw [e] at this; simp at this
  have ho0 : a.outs ≠ [] := fun e => by
    have := r.outs
    rw [e] at this
    exact absurd this (by decide)
  have ht := r.time
  obtain ⟨tn, htn⟩ : ∃ tn : Nat, a.time = (tn : Int) := ⟨a.time.toNat, by omega⟩
  obtain ⟨n1, n2⟩ := itoa_num tn (by omega)
  have hnw := digits_word tn
  -- the tool
  have s1 := read_line (n := (((((m + 1) + 1) + a.needs.length) + a.outs.length) + a.vars.length) + a.cmds.length) (text := textA a) (t' := ofL (flatL doS a.cmds ++ (flatL varLn a.vars ++ (flatL outLn a.outs ++ (flatL needLn a.needs ++ toL (timeLn a.time)))))) (a := .zero) (last := 0) (at_ := 0) (p := 1) (rest := a.tool) (by decide) (by decide) (by rw [hu, toL_ofL]; unfold toolLn; rw [ln2_L]; rfl) hd.1.2.2 rfl (one_word hd.1)
  rw [s1]
  have c1 : ∀ c ∈ a.cmds, toL (doS c) = toL (wordP 2) ++ 32 :: (toL (joinS c) ++ [10]) ∧ (10 : UInt8) ∉ toL (joinS c) ∧ okA 2 (joinS c) = true := fun c hc => (cmd_facts (r.cmd c hc)).1
  have s2 := read_many (p := 2) (by decide) (by decide) rfl doS joinS a.cmds c1 (ofL (flatL doS a.cmds ++ (flatL varLn a.vars ++ (flatL outLn a.outs ++ (flatL needLn a.needs ++ toL (timeLn a.time)))))) (ofL (flatL varLn a.vars ++ (flatL outLn a.outs ++ (flatL needLn a.needs ++ toL (timeLn a.time))))) (putA .zero 1 a.tool) 1 (0 + 1) (((((m + 1) + 1) + a.needs.length) + a.outs.length) + a.vars.length) (by rw [toL_ofL, toL_ofL]) (fun _ => rfl)
  rw [s2, fold_cmds _ _ (fun c hc => (cmd_facts (r.cmd c hc)).2)]
  have g2 : cond a.cmds.isEmpty 1 2 = 2 := by
    cases hq : a.cmds with
    | nil => exact absurd hq hc0
    | cons _ _ => rfl
  rw [g2]
  have v1 : ∀ x ∈ a.vars, toL (varLn x) = toL (wordP 3) ++ 32 :: (toL (varB x) ++ [10]) ∧ (10 : UInt8) ∉ toL (varB x) ∧ okA 3 (varB x) = true := fun x hx => by
    have := var_facts ((vars_right r.vars).2 x hx)
    exact ⟨var_line [118, 97, 114] x, this.1, this.2.1⟩
  have s3 := fun (b : Act) (n at_ : Nat) => read_many (p := 3) (by decide) (by decide) rfl varLn varB a.vars v1 (ofL (flatL varLn a.vars ++ (flatL outLn a.outs ++ (flatL needLn a.needs ++ toL (timeLn a.time))))) (ofL (flatL outLn a.outs ++ (flatL needLn a.needs ++ toL (timeLn a.time)))) b 2 at_ n (by rw [toL_ofL, toL_ofL]) (fun _ => rfl)
  rw [s3, fold_vars _ _ (fun x hx => (var_facts ((vars_right r.vars).2 x hx)).2.2)]
  have o1 : ∀ x ∈ a.outs, toL (outLn x) = toL (wordP 4) ++ 32 :: (toL (id x) ++ [10]) ∧ (10 : UInt8) ∉ toL (id x) ∧ okA 4 (id x) = true := fun x hx => by
    have := path_word ((outs_right r.outs).2 x hx)
    exact ⟨ln2_L _ _, this.2.2, one_word this⟩
  have hn3 : nextOk (cond a.vars.isEmpty 2 3) 4 = true := by cases a.vars.isEmpty <;> rfl
  have s4 := fun (b : Act) (n at_ : Nat) => read_many (p := 4) (by decide) (by decide) rfl outLn id a.outs o1 (ofL (flatL outLn a.outs ++ (flatL needLn a.needs ++ toL (timeLn a.time)))) (ofL (flatL needLn a.needs ++ toL (timeLn a.time))) b (cond a.vars.isEmpty 2 3) at_ n (by rw [toL_ofL, toL_ofL]) (fun _ => hn3)
  rw [s4]
  have ho := fun b : Act => fold_outs a.outs b
  have ho' : ∀ b : Act, a.outs.foldl (fun a x => putA a 4 (id x)) b = { b with outs := b.outs ++ a.outs } := ho
  rw [ho']
  have g4 : ∀ z : Nat, cond a.outs.isEmpty z 4 = 4 := fun z => by
    cases hq : a.outs with
    | nil => exact absurd hq ho0
    | cons _ _ => rfl
  rw [g4]
  have w1 : ∀ x ∈ a.needs, toL (needLn x) = toL (wordP 5) ++ 32 :: (toL (varB x) ++ [10]) ∧ (10 : UInt8) ∉ toL (varB x) ∧ okA 5 (varB x) = true := fun x hx => by
    have := var_facts ((vars_right r.needs).2 x hx)
    exact ⟨var_line [110, 101, 101, 100] x, this.1, this.2.1⟩
  have s5 := fun (b : Act) (n at_ : Nat) => read_many (p := 5) (by decide) (by decide) rfl needLn varB a.needs w1 (ofL (flatL needLn a.needs ++ toL (timeLn a.time))) (timeLn a.time) b 4 at_ n (by rw [toL_ofL]) (fun _ => rfl)
  rw [s5, fold_needs _ _ (fun x hx => (var_facts ((vars_right r.needs).2 x hx)).2.2)]
  have hn5 : nextOk (cond a.needs.isEmpty 4 5) 6 = true := by cases a.needs.isEmpty <;> rfl
  have s6 := fun (b : Act) (at_ : Nat) => read_line (n := m + 1) (text := timeLn a.time) (t' := bs []) (a := b) (last := cond a.needs.isEmpty 4 5) (at_ := at_) (p := 6) (rest := itoaS a.time) (by decide) (by decide) (by unfold timeLn; rw [ln2_L, show toL (bs []) = [] from rfl, List.append_nil]; rfl) (by rw [htn]; exact hnw.2.2) hn5 (by rw [htn]; exact n1)
  rw [s6, readA_succ, (strEq_iff (bs []) (bs [])).2 rfl, cond_true]
  unfold readEnd
  dsimp only
  rw [decide_eq_true (show (6 : Nat) = 6 from rfl), cond_true]
  have hfin : putA { tool := a.tool, cmds := [] ++ a.cmds, vars := [] ++ a.vars, outs := [] ++ a.outs, needs := [] ++ a.needs, time := 0 } 6 (itoaS a.time) = a := by
    have : numV (itoaS a.time) = a.time := by rw [htn]; exact n2
    show (⟨a.tool, [] ++ a.cmds, [] ++ a.vars, [] ++ a.outs, [] ++ a.needs, numV (itoaS a.time)⟩ : Act) = a
    rw [this]
    rfl
  show cond (actS (putA { tool := a.tool, cmds := [] ++ a.cmds, vars := [] ++ a.vars, outs := [] ++ a.outs, needs := [] ++ a.needs, time := 0 } 6 (itoaS a.time)) == 0) (putA { tool := a.tool, cmds := [] ++ a.cmds, vars := [] ++ a.vars, outs := [] ++ a.outs, needs := [] ++ a.needs, time := 0 } 6 (itoaS a.time), 0, 0) _ = _
  rw [hfin, h]
  rfl
theorem readActS_ok (s : ByteArray) : ActOk (readActS s).1 := by
  unfold readActS
  cases hc : decide (s.size > 2000000) with
  | true => exact zero_ok
  | false =>
    have hs : s.size ≤ 2000000 := by have := of_decide_eq_false hc; omega
    rw [cond_false]
    cases hr : readA (s.size + 1) s .zero 0 0 with
    | error e => exact zero_ok
    | ok r =>
      obtain ⟨ok, _⟩ := readA_ok _ _ _ _ _ r zero_len zero_ok (by omega) (by omega) hr
      obtain ⟨a, last, at_⟩ := r
      unfold readEnd
      dsimp only
      cases decide (last = 6) with
      | false => exact zero_ok
      | true =>
        rw [cond_true]
        cases actS a == 0 with
        | false => exact zero_ok
        | true => exact ok
section
variable {R : Type}
theorem law8b {k : Nat} (hk : Many k) (s : ByteArray) {S : List LV} (hS : HasPow S) (he : HasErr S H.errG) (hg : HasErr S H.rngG) (K : Bool × Unit → List LV → Option R) : G.smithyardlaw5_ActionTextsComeBack.q3 k (fun o S => K (o.1, ()) S) (s, ()) S = K (true, ()) S := by
  unfold G.smithyardlaw5_ActionTextsComeBack.q3 G.smithyardlaw5_ActionTextsComeBack.q4 G.smithyardlaw5_ActionTextsComeBack.q5 G.smithyardlaw5_ActionTextsComeBack.q6 G.smithyardlaw5_ActionTextsComeBack.q7
  dsimp only
  rw [prog_Read hk s S he hg]
  dsimp only
  rw [ne0]
  cases hz : (readActS s).2.2 == 0 with
  | false =>
    have hn : (readActS s).2.2 ≠ 0 := fun e => by rw [e] at hz; cases hz
    rw [Bool.not_false, ifB_true, read_zero hn]
    show ifB (strEq (bs []) (bs [])) _ _ = _
    rw [(strEq_iff (bs []) (bs [])).2 rfl, ifB_true, prog_awake hk]
  | true =>
    rw [Bool.not_true, ifB_false]
    obtain ⟨h1, h2⟩ := read_write (eq_of_beq hz)
    refine Eq.trans (prog_Text hk (readActS s).1 (readActS_ok s) hS _) ?_
    have e : textActS (readActS s).1 = (s, 0) := by
      unfold textActS
      rw [h1, h2]; rfl
    rw [e]
    dsimp only
    rw [beq_self_eq_true, ifB_true, strEq_refl, ifB_true, prog_awake hk]
theorem law8 {k : Nat} (hk : Many k) (a : Act) (ok : ActOk a) (ft : ActFit a) (s : ByteArray) {S : List LV} (hS : HasPow S) (he : HasErr S H.errG) (hg : HasErr S H.rngG) (K : Bool × Unit → List LV → Option R) : G.smithyardlaw5_ActionTextsComeBack.fn k (a.tup, s, ()) S K = K (true, ()) S := by
  unfold G.smithyardlaw5_ActionTextsComeBack.fn
  refine Eq.trans (prog_Text hk a ok hS _) ?_
  unfold G.smithyardlaw5_ActionTextsComeBack.q0 G.smithyardlaw5_ActionTextsComeBack.q1 G.smithyardlaw5_ActionTextsComeBack.q2
  unfold textActS
  dsimp only
  cases hz : actS a == 0 with
  | false =>
    dsimp only [cond_false]
    rw [hz, ifB_false]
    exact law8b hk s hS he hg K
  | true =>
    have h := eq_of_beq hz
    dsimp only [cond_true]
    rw [beq_self_eq_true, ifB_true, prog_Read hk (textA a) S he hg, write_read h]
    dsimp only
    rw [show ((0 : Int) != 0) = false from rfl, ifB_false, show (((0 : Nat) : Int) != 0) = false from rfl, ifB_false]
    refine Eq.trans (ref_SameAction hk a (fit_len ft) (Nat.le_refl _) (fun c hc => by have := ft.cmd c hc; omega) S _) ?_
    rw [Bool.not_true, ifB_false]
    exact law8b hk s hS he hg K
end
end Go.Lm
