/- Short forms for printed functions: tables of handlers, pieces with their proofs, masks. -/
import Derived.Test.YtefkkflmiabfeaaGreatDoorLmP
set_option linter.unusedVariables false
set_option linter.unusedSimpArgs false
namespace Go.Lm
abbrev LL := List LV
abbrev U1 := Unit
abbrev BA := ByteArray
abbrev Kt (R α : Type) := α → List LV → Option R
abbrev tt := true
abbrev ff := false
theorem tr : True := trivial
/-! ### Masks: m slots that are forgotten, ahead of others -/
abbrev n1 (m : Mk) : Mk := none :: m
abbrev n2 (m : Mk) : Mk := none :: none :: m
abbrev n3 (m : Mk) : Mk := none :: none :: none :: m
abbrev n4 (m : Mk) : Mk := none :: none :: none :: none :: m
abbrev n5 (m : Mk) : Mk := none :: none :: none :: none :: none :: m
abbrev n6 (m : Mk) : Mk := none :: none :: none :: none :: none :: none :: m
abbrev n7 (m : Mk) : Mk := none :: none :: none :: none :: none :: none :: none :: m
abbrev n8 (m : Mk) : Mk := none :: none :: none :: none :: none :: none :: none :: none :: m
abbrev n9 (m : Mk) : Mk := none :: none :: none :: none :: none :: none :: none :: none :: none :: m
abbrev nX (m : Mk) : Mk := none :: none :: none :: none :: none :: none :: none :: none :: none :: none :: m
abbrev sh (s : SH) (m : Mk) : Mk := some s :: m
abbrev sI (m : Mk) : Mk := some (.lf (.int .i64)) :: m
abbrev sB (m : Mk) : Mk := some (.lf .bool) :: m
abbrev sS (m : Mk) : Mk := some (.lf .str) :: m
abbrev sL (z : Nat) (m : Mk) : Mk := some (.lf (.sl z)) :: m
abbrev sO (e z : Nat) (m : Mk) : Mk := some (.lf (.own e z)) :: m
abbrev sP (m : Mk) : Mk := some (.lf .ptr) :: m
abbrev sA (l : List LS) (m : Mk) : Mk := some (.agg l) :: m
abbrev sX (l : List LS) (m : Mk) : Mk := some (.lbox l) :: m
abbrev jI : LS := .int .i64

def cd (fn : Func) : Code := fn.body.getD .skip
theorem cd_eq {fn : Func} (h : fn.body.isSome = true) : fn.body = some (cd fn) := by
  unfold cd
  cases hb : fn.body with
  | none => rw [hb] at h; cases h
  | some c => rfl
section
variable {R : Type} {P : Program}
/-- A handler with its promise. -/
structure Ent (P : Program) (R : Type) where
  f : Nat
  h : Hd R
  ok : HSound P f h
def entC : List (Ent P R) → Nat → Hd R
  | [], _ => fun _ _ _ => none
  | e :: l, f => match Nat.beq f e.f with
    | true => e.h
    | false => entC l f
theorem entC_ok : ∀ (l : List (Ent P R)) (f : Nat), HSound P f (entC l f)
  | [], f => fun args S K r h => by simp [entC] at h
  | e :: l, f => by
    unfold entC
    split
    · rename_i h; have := Nat.eq_of_beq_eq_true h; subst this; exact e.ok
    · exact entC_ok l f
/-- A piece of code with its promise. -/
structure Pc (P : Program) (R : Type) (c : Code) where
  h : Q → (LX → Q → Option R) → Option R
  ok : PieceOk P c h
variable {T : Nat → Option TI} (hT : ∀ t ti, T t = some ti → tiOf P t = some ti)
include hT
def mkLoop (C : List (Ent P R)) (c : Code) (m : Mk) (k : Nat) (an : An R) (han : AnOk P an c)
    (b : (LX → Q → Option R) → (m.ty → List LV → Option R) → m.ty → List LV → Option R)
    (hb : ∀ (K : LX → Q → Option R) (rec : Q → Option R) x S, lexec T (entC C) an c (Qm m x S) (fun x q => match x with | .nrm => rec (q.mask m) | x => K x q) = b K (fun x S => rec (Qm m x S)) x S) : Pc P R (.loop c) :=
  ⟨typed m fun x S K => rounds (b K) k x S, loop_ok (lexec_ok hT (entC_ok C) an c han) (m := m) (k := k) (b := b) hb⟩
def mkCut (C : List (Ent P R)) (c : Code) (m : Mk) (an : An R) (han : AnOk P an c)
    (f : m.ty → List LV → (LX → Q → Option R) → Option R) (he : ∀ x S K, lexec T (entC C) an c (Qm m x S) K = f x S K) : Pc P R c :=
  ⟨typed m f, typed_ok (lexec_ok hT (entC_ok C) an c han) he⟩
def mkEnd (C : List (Ent P R)) (c : Code) (m z : Mk) (an : An R) (han : AnOk P an c)
    (f : m.ty → List LV → (LX → Q → Option R) → Option R) (he : ∀ x S K, maskEnd z (lexec T (entC C) an c) (Qm m x S) K = f x S K) : Pc P R c :=
  ⟨typed m f, typed_ok (maskEnd_ok (lexec_ok hT (entC_ok C) an c han)) he⟩
def mkFn {n : Nat} {fn : Func} (hf : P.funcs[n]? = some fn) (ps rs : Mk) (C : List (Ent P R)) (an : An R) (han : AnOk P an (cd fn))
    (g : ps.ty → List LV → (rs.ty → List LV → Option R) → Option R) (h1 : (fn.name == "runtime.NumGoroutine") = false) (h2 : fn.body.isSome = true)
    (he : ∀ x S K, lbody T (entC C) an fn (ps.enc x) S K = g x S fun r S => K (resE rs r) S) : Ent P R :=
  ⟨n, Lm.hT ps fun x S K => g x S fun r S => K (resE rs r) S, fn_ok hT (entC_ok C) (cd fn) (cd_eq h2) han hf (enters_ok hf h1 h2) he⟩
end
/-- What a function made is forgotten. -/
noncomputable def mkPop {R : Type} {P : Program} {n : Nat} {ps rs : Mk} {g : ps.ty → List LV → (LV → List LV → Option (LV × List LV)) → Option (LV × List LV)} (h : HSound P n (hT ps g)) : Ent P R :=
  ⟨n, hT ps fun x S K => popK rs 6 S (g x S fun v S => some (v, S)) fun r S => K (resE rs r) S, pop_ok h⟩
open Classical in
/-- A function of one slice that answers alike whether an empty one is nil or not. -/
noncomputable def nilK {R : Type} (rs : Mk) (z : Nat) (xs : List LV) (m : LV → Option (LV × List LV)) (K : rs.ty → List LV → Option R) : Option R := match m (.nsl z xs) with
  | some (v, S') => if (xs = [] → m .nilsl = some (v, S')) ∧ ∃ y, v = resE rs y then (match decR rs v with
    | some r => K r S'
    | none => none) else none
  | none => none
theorem nilK_at {R : Type} {rs : Mk} {z : Nat} {xs : List LV} {m : LV → Option (LV × List LV)} {K : rs.ty → List LV → Option R} {r : rs.ty} {S' : List LV} (h1 : m (.nsl z xs) = some (resE rs r, S')) (h0 : xs = [] → m .nilsl = some (resE rs r, S')) : nilK rs z xs m K = K r S' := by
  unfold nilK
  rw [h1]
  dsimp only
  rw [if_pos ⟨h0, r, rfl⟩, decR_enc]
theorem nil_ok {R : Type} {P : Program} {f : FuncId} {rs : Mk} {z : Nat} {g : LV × Unit → List LV → (LV → List LV → Option (LV × List LV)) → Option (LV × List LV)} (h : HSound P f (hT [some (.lf .raw)] g)) :
    HSound P f (hT (R := R) [some (.lf (.sl z))] fun (x : List LV × Unit) S K => nilK rs z x.1 (fun v => g (v, ()) S fun v S => some (v, S)) fun r S => K (resE rs r) S) := by
  intro args S K r h1
  unfold hT at h1
  split at h1
  · rename_i hl
    split at h1
    · rename_i x hx
      unfold nilK at h1
      dsimp only at h1
      split at h1
      · rename_i v1 S1 he
        split at h1
        · rename_i hg
          obtain ⟨h0, h3⟩ := hg
          split at h1
          · rename_i r1 hr1
            have hv := decR_some hr1 h3
            have key : ∀ w : LV, g (w, ()) S (fun v S => some (v, S)) = some (v1, S1) → Enters P f ∧ LCalls P f [w] S v1 S1 := fun w hw => by
              obtain ⟨hen, v', S', hc, hk⟩ := h [w] S (fun v S => some (v, S)) (v1, S1) hw
              cases hk
              exact ⟨hen, hc⟩
            obtain ⟨xs, u⟩ := x
            obtain ⟨hen, hc1⟩ := key _ he
            have hc : LCalls P f [.sl z xs] S v1 S1 := LCalls.nilCases (fun e => (key _ (h0 e)).2) hc1
            have := Mk.dec_enc _ _ _ hx
            rw [show Mk.enc [some (.lf (.sl z))] (xs, u) = [.sl z xs] from rfl] at this
            rw [← this] at hc
            exact ⟨hen, v1, S1, hc.co, by rw [hv]; exact h1⟩
          · cases h1
        · cases h1
      · cases h1
    · cases h1
  · cases h1
noncomputable def mkNil {R : Type} {P : Program} {n : Nat} (rs : Mk) (z : Nat) {g : LV × Unit → List LV → (LV → List LV → Option (LV × List LV)) → Option (LV × List LV)} (h : HSound P n (hT [some (.lf .raw)] g)) : Ent P R :=
  ⟨n, hT [some (.lf (.sl z))] fun (x : List LV × Unit) S K => nilK rs z x.1 (fun v => g (v, ()) S fun v S => some (v, S)) fun r S => K (resE rs r) S, nil_ok h⟩
end Go.Lm
