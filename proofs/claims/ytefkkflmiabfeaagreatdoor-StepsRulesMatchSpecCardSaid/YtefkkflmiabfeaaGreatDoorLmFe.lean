/- Calls that do not see one object of the store: it stays as it is. -/
import Derived.Test.YtefkkflmiabfeaaGreatDoorLmFc
set_option linter.unusedVariables false
set_option linter.unusedSimpArgs false
namespace Go.Lm
section
variable {R : Type} {P : Program} {T : Nat → Option TI} {C : Nat → Hd R}

theorem getD_set_or' (S : List LV) (h id : Nat) (x : LV) : (S.set h x).getD id .any = if id = h ∧ h < S.length then x else S.getD id .any := by
  by_cases e : id = h
  · subst e
    by_cases hl : id < S.length
    · rw [if_pos ⟨rfl, hl⟩]; exact getD_set_self _ _ _ hl
    · rw [if_neg (fun e => hl e.2), List.set_eq_of_length_le (Nat.le_of_not_lt hl)]
  · rw [if_neg (fun h => e h.1)]; exact getD_set_other _ _ e
theorem LCalls.hide {f : FuncId} {args S S₁ : List LV} {v : LV} {h : Nat} (hc : LCalls P f args (S.set h .any) v S₁) (hl : h < S₁.length) {S2 : List LV} (hS : S2.set h .any = S.set h .any) :
    LCalls P f args S2 v (S₁.set h (S2.getD h .any)) := by
  intro c vs o hvl hvr hsto hsep hlt
  rw [← hS] at hc
  let o0 : Ow := upd o (.sto h) []
  have sub : ∀ k g, g ∈ o0 k → g ∈ o k ∧ k ≠ .sto h := fun k g hg => by
    simp only [o0, upd] at hg
    split at hg
    · simp at hg
    · rename_i hk; exact ⟨hg, hk⟩
  refine (hc c vs o0 hvl (fun i hi => ?_) ⟨by rw [List.length_set]; exact hsto.n, fun id hid => ?_, hsto.bd⟩ (hsep.drop _) (fun k g hg => hlt k g (sub k g hg).1)).mono ?_
  · show Rep c _ _ (upd o (.sto h) [] (.arg i))
    rw [upd_other _ _ (by simp)]; exact hvr i hi
  · rw [List.length_set] at hid
    rw [getD_set_or']
    split
    · exact (show Rep c .any _ (o0 (.sto id)) from by rename_i e; rw [e.1]; show Rep c .any _ (upd o (.sto h) [] (.sto h)); rw [upd_same]; exact .any _)
    · rename_i e
      have hne : id ≠ h := fun e1 => e ⟨e1, e1 ▸ hid⟩
      show Rep c _ _ (upd o (.sto h) [] (.sto id))
      rw [upd_other _ _ (by simpa using hne)]
      exact hsto.r id hid
  · rintro e w' ⟨c', u, o', he, hw, hext, hrep, hsto', hsep', hown, henv⟩
    have hn : S2.length ≤ S₁.length := by
      have h1 := hext.n
      have h2 := hsto.n
      have h3 := hsto'.n
      omega
    by_cases hlS : h < S2.length
    · -- the hidden object comes back
      have hO : ∀ g, g ∈ o (.sto h) → ¬ ∃ k, g ∈ o0 k := fun g hg ⟨k, hk⟩ => hsep.dj (.sto h) k g (fun e => (sub k g hk).2 e.symm) hg (sub k g hk).1
      have hO' : ∀ k g, g ∈ o' k → g ∉ o (.sto h) := fun k g hg hg' => by
        rcases (hown k g hg).2 with h1 | h1
        · exact hO g hg' h1
        · have := hlt _ g hg'; omega
      refine ⟨c', u, upd o' (.sto h) (o (.sto h)), he, hw, hext.mono (fun b ⟨k, hk⟩ => ⟨k, (sub k b hk).1⟩), ?_, ⟨by rw [List.length_set]; exact hsto'.n, fun id hid => ?_, hsto'.bd⟩, ⟨fun k => ?_, fun k k' g hne hg hg' => ?_⟩, fun k g hg => ?_, fun t => ?_⟩
      · rw [upd_other _ _ (by simp)]; exact hrep
      · rw [List.length_set] at hid
        rw [getD_set_or']
        split
        · rename_i e
          rw [e.1, upd_same, hext.ι h (by rw [hsto.n]; exact hlS)]
          exact (hsto.r h hlS).ext hext hO
        · rename_i e
          have hne : id ≠ h := fun e1 => e ⟨e1, hl⟩
          rw [upd_other _ _ (by simpa using hne)]
          exact hsto'.r id hid
      · unfold upd; split
        · exact hsep.nd _
        · exact hsep'.nd k
      · unfold upd at hg hg'
        split at hg
        · split at hg'
          · rename_i e1 e2; exact hne (e1.trans e2.symm)
          · exact hO' k' g hg' hg
        · split at hg'
          · exact hO' k g hg hg'
          · exact hsep'.dj k k' g hne hg hg'
      · unfold upd at hg
        split at hg
        · exact ⟨by have := hlt _ g hg; have := hext.size; rw [← hw]; omega, .inl ⟨_, hg⟩⟩
        · refine ⟨(hown k g hg).1, ?_⟩
          rcases (hown k g hg).2 with ⟨k', h1⟩ | h1
          · exact .inl ⟨k', (sub k' g h1).1⟩
          · exact .inr h1
      · rw [upd_other _ _ (by simp)]; exact henv t
    · have hany : S2.getD h .any = .any := by simp [List.getD_eq_getElem?_getD, List.getElem?_eq_none (Nat.le_of_not_lt hlS)]
      rw [hany]
      have sub' : ∀ k g, g ∈ upd o' (.sto h) [] k → g ∈ o' k := fun k g hg => by
        simp only [upd] at hg
        split at hg
        · simp at hg
        · exact hg
      refine ⟨c', u, upd o' (.sto h) [], he, hw, hext.mono (fun b ⟨k, hk⟩ => ⟨k, (sub k b hk).1⟩), ?_, ⟨by rw [List.length_set]; exact hsto'.n, fun id hid => ?_, hsto'.bd⟩, hsep'.drop _, fun k g hg => ?_, fun t => ?_⟩
      · rw [upd_other _ _ (by simp)]; exact hrep
      · rw [List.length_set] at hid
        rw [getD_set_or']
        split
        · rename_i e
          rw [e.1, upd_same]; exact .any _
        · rename_i e
          have hne : id ≠ h := fun e1 => e ⟨e1, hl⟩
          rw [upd_other _ _ (by simpa using hne)]
          exact hsto'.r id hid
      · refine ⟨(hown k g (sub' k g hg)).1, ?_⟩
        rcases (hown k g (sub' k g hg)).2 with ⟨k', h1⟩ | h1
        · exact .inl ⟨k', (sub k' g h1).1⟩
        · exact .inr h1
      · rw [upd_other _ _ (by simp)]; exact henv t
/-- What a table of handlers answers that do not see an object. -/
def HidC (P : Program) (h : Nat) (C : Nat → Hd R) : Prop :=
  ∀ f args S K r, C f args S K = some r → Enters P f ∧ ∃ (v : LV) (S₁ : List LV), K v (S₁.set h (S.getD h .any)) = some r ∧ h < S₁.length ∧ ∀ S2, S2.set h .any = S.set h .any → LCalls P f args S2 v (S₁.set h (S2.getD h .any))
theorem hideC_hid {h : Nat} (hC : ∀ f, HSound P f (C f)) : HidC P h (hideC h C) := by
  intro f args S K r hh
  unfold hideC at hh
  obtain ⟨hen, v, S', hc, hk⟩ := hC f _ _ _ _ hh
  unfold hidR at hk
  rcases ifB_some hk with ⟨h1, hk⟩ | ⟨_, hk⟩
  · have h1 : h < S'.length := Nat.le_of_ble_eq_true h1
    exact ⟨hen, v, S', hk, h1, fun S2 hS => hc.hide h1 hS⟩
  · cases hk
theorem hideC_ok {h : Nat} (hC : ∀ f, HSound P f (C f)) : ∀ f, HSound P f (hideC h C f) := fun f args S K r hh => by
  obtain ⟨hen, v, S₁, hk, _, hc⟩ := hideC_hid (h := h) hC f args S K r hh
  exact ⟨hen, v, _, hc S rfl, hk⟩
/-- What a table of handlers answers that leave the store as it is. -/
def QuietC (P : Program) (C : Nat → Hd R) : Prop :=
  ∀ f args S K r, C f args S K = some r → Enters P f ∧ ∃ v : LV, K v S = some r ∧ LCalls P f args S v S
theorem quietC_quiet (hC : ∀ f, HSound P f (C f)) : QuietC P (quietC C) := by
  intro f args S K r hh
  unfold quietC at hh
  obtain ⟨hen, v, S', hc, hk⟩ := hC f _ _ _ _ hh
  unfold quiR at hk
  split at hk
  · rename_i e; subst e; exact ⟨hen, v, hk, hc⟩
  · cases hk
theorem quietC_ok (hC : ∀ f, HSound P f (C f)) : ∀ f, HSound P f (quietC C f) := fun f args S K r hh => by
  obtain ⟨hen, v, hk, hc⟩ := quietC_quiet hC f args S K r hh
  exact ⟨hen, v, S, hc, hk⟩
theorem quiR_at (S : List LV) (K : List LV → Option R) : quiR S S K = K S := by unfold quiR; rw [if_pos rfl]
end
end Go.Lm
