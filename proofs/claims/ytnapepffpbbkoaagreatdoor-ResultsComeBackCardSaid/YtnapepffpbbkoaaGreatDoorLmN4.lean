/- Reading a result: the program's function. -/
import Derived.Test.YtnapepffpbbkoaaGreatDoorLmN3
set_option maxRecDepth 100000
namespace Go.Lm
theorem fileRd_lt {s : ByteArray} {p q : Nat} {f : File} (h : fileRd s p = .ok (f, q)) : p < q ∧ q ≤ s.size ∧ f.p.size ≤ s.size ∧ f.b.size ≤ s.size := by
  unfold fileRd at h
  split at h
  · rename_i pa r n q0 hw
    obtain ⟨l1, l2, _, l4⟩ := words_lt hw
    split at h
    · split at h
      · cases h
      · rename_i b e ht
        obtain ⟨t1, t2, t3⟩ := takeS_le (numV_nonneg n) ht
        split at h
        · rename_i hb
          simp only [Except.ok.injEq, Prod.mk.injEq] at h
          obtain ⟨rfl, rfl⟩ := h
          have : e < s.size := by
            rcases Nat.lt_or_ge e s.size with h1 | h1
            · exact h1
            · unfold bt at hb
              rw [Int.toNat_natCast, dif_neg (by omega)] at hb
              simp at hb
          exact ⟨by omega, by omega, l4 pa (by simp), t3⟩
        · cases h
    · cases h
  · cases h
theorem lookRd_lt {s : ByteArray} {p q : Nat} {f : Look} (h : lookRd s p = .ok (f, q)) : p < q ∧ q ≤ s.size ∧ f.p.size ≤ s.size ∧ f.d.size ≤ s.size := by
  unfold lookRd at h
  split at h
  · rename_i pa d r q0 hw
    obtain ⟨l1, l2, _, l4⟩ := words_lt hw
    split at h
    · simp only [Except.ok.injEq, Prod.mk.injEq] at h
      obtain ⟨rfl, rfl⟩ := h
      refine ⟨l1, l2, l4 pa (by simp), ?_⟩
      dsimp only
      cases strEq d (bs [45]) with
      | true => exact Nat.zero_le _
      | false => exact l4 d (by simp)
    · cases h
  · cases h
def GoodF (s : ByteArray) (fs : List File) : Prop := ∀ f ∈ fs, f.p.size ≤ s.size ∧ f.b.size ≤ s.size
def GoodL (s : ByteArray) (ls : List Look) : Prop := ∀ f ∈ ls, f.p.size ≤ s.size ∧ f.d.size ≤ s.size
theorem GoodF.snoc {s : ByteArray} {fs : List File} {f : File} (h : GoodF s fs) (hf : f.p.size ≤ s.size ∧ f.b.size ≤ s.size) : GoodF s (fs ++ [f]) := fun g hg => by
  rcases List.mem_append.1 hg with h1 | h1
  · exact h g h1
  · have : g = f := by simpa using h1
    subst this; exact hf
theorem GoodL.snoc {s : ByteArray} {fs : List Look} {f : Look} (h : GoodL s fs) (hf : f.p.size ≤ s.size ∧ f.d.size ≤ s.size) : GoodL s (fs ++ [f]) := fun g hg => by
  rcases List.mem_append.1 hg with h1 | h1
  · exact h g h1
  · have : g = f := by simpa using h1
    subst this; exact hf
theorem filesRd_ok (s : ByteArray) : ∀ (n p : Nat) (fs : List File) (fs' : List File) (q : Nat), filesRd s n p fs = .ok (fs', q) → p ≤ s.size → fs.length ≤ p → GoodF s fs → p ≤ q ∧ q ≤ s.size ∧ fs'.length ≤ q ∧ GoodF s fs'
  | 0, p, fs, fs', q, h, _, _, _ => by cases h
  | n + 1, p, fs, fs', q, h, hp, hl, hg => by
    unfold filesRd at h
    split at h
    · simp only [Except.ok.injEq, Prod.mk.injEq] at h
      obtain ⟨rfl, rfl⟩ := h
      exact ⟨Nat.le_refl _, hp, hl, hg⟩
    · split at h
      · cases h
      · rename_i f q1 hf
        obtain ⟨a1, a2, a3, a4⟩ := fileRd_lt hf
        obtain ⟨b1, b2, b3, b4⟩ := filesRd_ok s n q1 _ fs' q h a2 (by simp; omega) (hg.snoc ⟨a3, a4⟩)
        exact ⟨by omega, b2, b3, b4⟩
theorem looksRd_ok (s : ByteArray) : ∀ (n p : Nat) (ls ls' : List Look), looksRd s n p ls = .ok ls' → p ≤ s.size → ls.length ≤ p → GoodL s ls → ls'.length ≤ s.size ∧ GoodL s ls'
  | 0, p, fs, fs', h, _, _, _ => by cases h
  | n + 1, p, fs, fs', h, hp, hl, hg => by
    unfold looksRd at h
    split at h
    · cases h
      exact ⟨by omega, hg⟩
    · split at h
      · cases h
      · rename_i f q1 hf
        obtain ⟨a1, a2, a3, a4⟩ := lookRd_lt hf
        exact looksRd_ok s n q1 _ fs' h a2 (by simp; omega) (hg.snoc ⟨a3, a4⟩)
section
variable {R : Type}
theorem prefix_at (k : Nat) (s : ByteArray) (p : Nat) (hs : s.size ≤ 4000000) (S : List LV) (K : Bool × Unit → List LV → Option R) : G.strings_HasPrefix.fn k (restS s p, bs [102, 105, 108, 101, 32], ()) S K = K (prefixS s p, ()) S := by
  unfold G.strings_HasPrefix.fn G.internal_stringslite_HasPrefix.fn prefixS
  have hr := restS_size s p
  have e5 : ((bs [102, 105, 108, 101, 32]).size : Int) = 5 := rfl
  dsimp only
  rw [e5]
  by_cases h5 : 5 ≤ s.size - p
  · rw [ifB_pos (show ((restS s p).size : Int) ≥ 5 by omega), decide_eq_true h5]
    unfold slStr
    rw [ifB_pos ⟨by omega, by omega, by omega⟩]
    rfl
  · rw [ifB_neg (show ¬ ((restS s p).size : Int) ≥ 5 by omega), decide_eq_false h5]
    rfl
theorem prog_files {k : Nat} (hk : Many k) (id : Nat) : ∀ (n m : Nat) (S : List LV) (x : RR), S.getD id .any = .obj 87 x.cells → x.pos ≤ x.s.size → x.s.size ≤ 4000000 → x.files.length ≤ x.pos → x.s.size - x.pos < n → n ≤ m →
    match filesRd x.s n x.pos x.files with
    | .error e => ∃ y : RR, y.pos = e ∧ y.s = x.s ∧ ∀ (J : (Nat × Nat) × Unit → List LV → Option R) (Jret : Bool × Unit → List LV → Option R), rounds (G.action_resultReader_all.b0 k J Jret) m ((id, 0), ()) S = Jret (false, ()) (S.set id (.obj 87 y.cells))
    | .ok (fs, q) => ∀ (J : (Nat × Nat) × Unit → List LV → Option R) (Jret : Bool × Unit → List LV → Option R), rounds (G.action_resultReader_all.b0 k J Jret) m ((id, 0), ()) S = J ((id, 0), ()) (S.set id (.obj 87 { x with files := fs, pos := q }.cells))
  | 0, m, S, x, _, _, _, _, hn, _ => by omega
  | n + 1, m, S, x, h, hp, hs, hf, hn, hm => by
    obtain ⟨m, rfl⟩ : ∃ m', m = m' + 1 := ⟨m - 1, by omega⟩
    unfold filesRd
    have hself : S.set id (.obj 87 x.cells) = S := set_same S id _ h
    have step : ∀ (J : (Nat × Nat) × Unit → List LV → Option R) (Jret : Bool × Unit → List LV → Option R), rounds (G.action_resultReader_all.b0 k J Jret) (m + 1) ((id, 0), ()) S = ifB (prefixS x.s x.pos) (G.action_resultReader_file.fn k ((id, 0), ()) S fun r8 S => ifB (!r8.1) (Jret (false, ()) S) (rounds (G.action_resultReader_all.b0 k J Jret) m ((id, 0), ()) S)) (J ((id, 0), ()) S) := fun J Jret => by
      rw [rounds_succ]
      unfold G.action_resultReader_all.b0
      dsimp only
      simp only [at_of h, RR.ld0, RR.ld1]
      rw [rest_at hp, prefix_at k _ _ hs]
    simp only [step]
    cases hpr : prefixS x.s x.pos with
    | false =>
      dsimp only
      intro J Jret
      rw [ifB_false]
      show _ = J ((id, 0), ()) (S.set id (.obj 87 x.cells))
      rw [hself]
    | true =>
      simp only [ifB_true]
      have hfile := prog_file (R := R) hk h hp hs (by omega)
      cases hr : fileRd x.s x.pos with
      | error e =>
        rw [hr] at hfile
        obtain ⟨y, h1, h2, h3⟩ := hfile
        dsimp only
        refine ⟨y, h1, h2, fun J Jret => ?_⟩
        rw [h3]; rfl
      | ok fq =>
        obtain ⟨f, q⟩ := fq
        rw [hr] at hfile
        obtain ⟨a1, a2, a3, a4⟩ := fileRd_lt hr
        dsimp only at hfile ⊢
        simp only [hfile, Bool.not_true, ifB_false]
        have ih := prog_files hk id n m (S.set id (.obj 87 { x with files := x.files ++ [f], pos := q }.cells)) { x with files := x.files ++ [f], pos := q } (has_set h _) a2 hs (by simp; omega) (by dsimp only; omega) (by omega)
        dsimp only at ih
        simp only [List.set_set] at ih
        exact ih
theorem prog_looks {k : Nat} (hk : Many k) (id : Nat) : ∀ (n m : Nat) (S : List LV) (x : RR), S.getD id .any = .obj 87 x.cells → x.pos ≤ x.s.size → x.s.size ≤ 4000000 → x.looks.length ≤ x.pos → x.s.size - x.pos < n → n ≤ m →
    match looksRd x.s n x.pos x.looks with
    | .error e => ∃ y : RR, y.pos = e ∧ y.s = x.s ∧ ∀ (J : Unit → List LV → Option R) (Jret : Bool × Unit → List LV → Option R), rounds (G.action_resultReader_all.b1 k J Jret) m ((id, 0), ()) S = Jret (false, ()) (S.set id (.obj 87 y.cells))
    | .ok ls => ∃ q, ∀ (J : Unit → List LV → Option R) (Jret : Bool × Unit → List LV → Option R), rounds (G.action_resultReader_all.b1 k J Jret) m ((id, 0), ()) S = J () (S.set id (.obj 87 { x with looks := ls, pos := q }.cells))
  | 0, m, S, x, _, _, _, _, hn, _ => by omega
  | n + 1, m, S, x, h, hp, hs, hf, hn, hm => by
    obtain ⟨m, rfl⟩ : ∃ m', m = m' + 1 := ⟨m - 1, by omega⟩
    unfold looksRd
    have hself : S.set id (.obj 87 x.cells) = S := set_same S id _ h
    have step : ∀ (J : Unit → List LV → Option R) (Jret : Bool × Unit → List LV → Option R), rounds (G.action_resultReader_all.b1 k J Jret) (m + 1) ((id, 0), ()) S = ifB (decide (x.pos < x.s.size)) (G.action_resultReader_look.fn k ((id, 0), ()) S fun r8 S => ifB (!r8.1) (Jret (false, ()) S) (rounds (G.action_resultReader_all.b1 k J Jret) m ((id, 0), ()) S)) (J () S) := fun J Jret => by
      rw [rounds_succ]
      unfold G.action_resultReader_all.b1
      dsimp only
      simp only [at_of h, RR.ld0, RR.ld1]
      rw [lt_nat]
    simp only [step]
    cases hpr : decide (x.pos < x.s.size) with
    | false =>
      dsimp only
      refine ⟨x.pos, fun J Jret => ?_⟩
      rw [ifB_false]
      show _ = J () (S.set id (.obj 87 x.cells))
      rw [hself]
    | true =>
      simp only [ifB_true]
      have hlook := prog_look (R := R) hk h hp hs (by omega)
      cases hr : lookRd x.s x.pos with
      | error e =>
        rw [hr] at hlook
        obtain ⟨y, h1, h2, h3⟩ := hlook
        dsimp only
        refine ⟨y, h1, h2, fun J Jret => ?_⟩
        rw [h3]; rfl
      | ok fq =>
        obtain ⟨f, q⟩ := fq
        rw [hr] at hlook
        obtain ⟨a1, a2, a3, a4⟩ := lookRd_lt hr
        dsimp only at hlook ⊢
        simp only [hlook, Bool.not_true, ifB_false]
        have ih := prog_looks hk id n m (S.set id (.obj 87 { x with looks := x.looks ++ [f], pos := q }.cells)) { x with looks := x.looks ++ [f], pos := q } (has_set h _) a2 hs (by simp; omega) (by dsimp only; omega) (by omega)
        dsimp only at ih
        simp only [List.set_set] at ih
        exact ih
end
end Go.Lm
