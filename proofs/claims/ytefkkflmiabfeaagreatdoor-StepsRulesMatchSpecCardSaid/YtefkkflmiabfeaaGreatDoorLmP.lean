/- What a call made for itself and left behind is forgotten by its caller. -/
import Derived.Test.YtefkkflmiabfeaaGreatDoorLmH
set_option linter.unusedVariables false
set_option linter.unusedSimpArgs false
namespace Go.Lm
section
variable {R : Type} {P : Program}

/-- Does a value name no object of the store? -/
def noIdL : LV → Bool
  | .ptr _ _ => false
  | .map _ => false
  | .osl _ _ _ _ => false
  | .sl _ _ => false
  | .own _ _ _ => false
  | .nsl _ _ => false
  | .cptr _ _ _ => false
  | .fn _ _ => false
  | .agg _ => false
  | .tup _ => false
  | .lbox _ => false
  | .mp _ _ => false
  | .obj _ _ => false
  | .vec _ _ => false
  | .glob _ _ => false
  | _ => true
/-- The same, with what lies in slices, structs and lists of results. -/
def noId : Nat → LV → Bool
  | 0, v => noIdL v
  | n + 1, v => match v with
    | .sl _ xs => xs.all (noId n)
    | .own _ _ xs => xs.all (noId n)
    | .agg xs => xs.all (noId n)
    | .tup xs => xs.all (noId n)
    | v => noIdL v

theorem all_getD {xs : List LV} {f : LV → Bool} (h : xs.all f = true) (h0 : f .any = true) (i : Nat) : f (xs.getD i .any) = true := by
  rw [List.getD_eq_getElem?_getD]
  cases hx : xs[i]? with
  | none => exact h0
  | some x => exact List.all_eq_true.1 h x (List.mem_of_getElem? hx)
theorem noId_any (n : Nat) : noId n .any = true := by cases n <;> rfl
theorem noId_leaf {n : Nat} {x : LV} (h : noId n x = true) (j : Nat) : noId n (leaf x j) = true ∨ ∃ m, noId m (leaf x j) = true := by
  cases x with
  | agg xs =>
    cases n with
    | zero => cases h
    | succ n => exact .inr ⟨n, all_getD h (noId_any n) j⟩
  | _ =>
    cases j with
    | zero => exact .inl h
    | succ j => exact .inl (noId_any n)
/-- Without the objects' names. -/
def Cx.cut (c : Cx) (n : Nat) : Cx := { c with n := n }
theorem Rep.cutNo {c : Cx} {m : Nat} {x : LV} {v : Value} {O : List Nat} (r : Rep c x v O) : ∀ {n : Nat}, noId n x = true → Rep (c.cut m) x v O := by
  induction r with
  | int k n => intro _ _; exact .int k n
  | bool b => intro _ _; exact .bool b
  | str s => intro _ _; exact .str s
  | nilsl => intro _ _; exact .nilsl
  | sl0 sz a cap hn => intro _ _; exact .sl0 sz a cap hn
  | sl sz b off cap xs cv hcap hmax hc hI h1 hr ih =>
    intro n h
    refine .sl sz b off cap xs cv hcap hmax hc hI h1 (fun p hp => ?_)
    cases n with
    | zero => cases h
    | succ n =>
      rcases noId_leaf (all_getD h (noId_any n) (p / sz)) (p % sz) with h2 | ⟨_, h2⟩
      · exact ih p hp h2
      · exact ih p hp h2
  | own0 e sz => intro _ _; exact .own0 e sz
  | own e sz g cap xs cur hcap hmax hh hs hI h1 hr ih =>
    intro n h
    refine .own e sz g cap xs cur hcap hmax hh hs hI h1 (fun p hp => ?_)
    cases n with
    | zero => cases h
    | succ n =>
      rcases noId_leaf (all_getD h (noId_any n) (p / sz)) (p % sz) with h2 | ⟨_, h2⟩
      · exact ih p hp h2
      · exact ih p hp h2
  | cptr => intro n h; cases n <;> cases h
  | ptr => intro n h; cases n <;> cases h
  | nilp => intro _ _; exact .nilp
  | map => intro n h; cases n <;> cases h
  | nilm => intro _ _; exact .nilm
  | fn => intro n h; cases n <;> cases h
  | nilf => intro _ _; exact .nilf
  | nili => intro _ _; exact .nili
  | agg xs cs hs hr ih =>
    intro n h
    refine .agg xs cs hs (fun i hi => ?_)
    cases n with
    | zero => cases h
    | succ n => exact ih i hi (all_getD h (noId_any n) i)
  | tup xs cs os hs hr ih =>
    intro n h
    refine .tup xs cs os hs (fun i hi => ?_)
    cases n with
    | zero => cases h
    | succ n => exact ih i hi (all_getD h (noId_any n) i)
  | lbox => intro n h; cases n <;> cases h
  | any v => intro _ _; exact .any v
  | und => intro _ _; exact .und
  | mp => intro n h; cases n <;> cases h
  | obj => intro n h; cases n <;> cases h
  | vec => intro n h; cases n <;> cases h
  | glob k ob hh => intro n h; cases n <;> cases h
  | osl => intro n h; cases n <;> cases h
  | nsl => intro n h; cases n <;> cases h
/-- What read as something before names no newer object. -/
theorem Rep.cutOld {c : Cx} {x : LV} {v : Value} {O : List Nat} (r : Rep c x v O) : ∀ {c0 : Cx} {v0 : Value} {O0 : List Nat}, Rep c0 x v0 O0 → Rep (c.cut c0.n) x v O := by
  induction r with
  | int k n => intro _ _ _ _; exact .int k n
  | bool b => intro _ _ _ _; exact .bool b
  | str s => intro _ _ _ _; exact .str s
  | nilsl => intro _ _ _ _; exact .nilsl
  | sl0 sz a cap hn => intro _ _ _ _; exact .sl0 sz a cap hn
  | sl sz b off cap xs cv hcap hmax hc hI h1 hr ih =>
    intro c0 v0 O0 r0
    refine .sl sz b off cap xs cv hcap hmax hc hI h1 (fun p hp => ?_)
    cases r0 with
    | sl0 => simp at hp
    | sl _ _ _ _ _ _ _ _ _ _ _ hr0 => exact ih p hp (hr0 p hp)
  | own0 e sz => intro _ _ _ _; exact .own0 e sz
  | own e sz g cap xs cur hcap hmax hh hs hI h1 hr ih =>
    intro c0 v0 O0 r0
    refine .own e sz g cap xs cur hcap hmax hh hs hI h1 (fun p hp => ?_)
    cases r0 with
    | own0 => simp at hp
    | own _ _ _ _ _ _ _ _ _ _ _ _ hr0 => exact ih p hp (hr0 p hp)
  | cptr x o n b off cv ho hc hI h1 hr ih =>
    intro c0 v0 O0 r0
    refine .cptr x o n b off cv ho hc hI h1 (fun p hp => ?_)
    cases r0 with
    | cptr _ _ _ _ _ _ _ _ _ _ hr0 => exact ih p hp (hr0 p hp)
  | ptr id o hid => intro c0 v0 O0 r0; cases r0 with | ptr _ _ h0 => exact .ptr (c := c.cut c0.n) id o h0
  | nilp => intro _ _ _ _; exact .nilp
  | map id hid => intro c0 v0 O0 r0; cases r0 with | map _ h0 => exact .map (c := c.cut c0.n) id h0
  | nilm => intro _ _ _ _; exact .nilm
  | fn f caps cs hs hr ih =>
    intro c0 v0 O0 r0
    cases r0 with
    | fn _ _ _ _ hr0 => exact .fn f caps cs hs (fun i hi => ih i hi (hr0 i hi))
  | nilf => intro _ _ _ _; exact .nilf
  | nili => intro _ _ _ _; exact .nili
  | agg xs cs hs hr ih =>
    intro c0 v0 O0 r0
    cases r0 with
    | agg _ _ _ hr0 => exact .agg xs cs hs (fun i hi => ih i hi (hr0 i hi))
  | tup xs cs os hs hr ih =>
    intro c0 v0 O0 r0
    cases r0 with
    | tup _ _ _ _ hr0 => exact .tup xs cs os hs (fun i hi => ih i hi (hr0 i hi))
  | lbox xs g cur e hs hh hI h1 hr ih =>
    intro c0 v0 O0 r0
    cases r0 with
    | lbox _ _ _ _ _ _ _ _ hr0 => exact .lbox xs g cur e hs hh hI h1 (fun i hi => ih i hi (hr0 i hi))
  | any v => intro _ _ _ _; exact .any v
  | und => intro _ _ _ _; exact .und
  | mp kd kvs g es clock hh hst hs hk hI hr ih =>
    intro c0 v0 O0 r0
    cases r0 with
    | mp _ _ _ _ _ _ _ _ _ _ hr0 => exact .mp kd kvs g es clock hh hst hs hk hI (fun i hi => ih i hi (hr0 i hi))
  | obj e xs g cur os hs hh hI h1 hr ih =>
    intro c0 v0 O0 r0
    cases r0 with
    | obj _ _ _ _ _ _ _ _ _ hr0 => exact .obj e xs g cur os hs hh hI h1 (fun i hi => ih i hi (hr0 i hi))
  | vec e xs g cur os hs hh hI h1 hr ih =>
    intro c0 v0 O0 r0
    cases r0 with
    | vec _ _ _ _ _ _ _ _ _ hr0 => exact .vec e xs g cur os hs hh hI h1 (fun i hi => ih i hi (hr0 i hi))
  | glob k ob hh => intro c0 v0 O0 r0; exact .glob k ob hh
  | osl id o sz n cap hid hcap hmax hz => intro c0 v0 O0 r0; cases r0 with | osl _ _ _ _ _ h0 => exact .osl (c := c.cut c0.n) id o sz n cap h0 hcap hmax hz
  | nsl sz xs v a n cap hv _ ih =>
    intro c0 v0 O0 r0
    cases r0 with
    | nsl _ _ _ _ _ _ _ h0 => exact .nsl sz xs v a n cap hv (ih h0)

/-- What was made is forgotten. -/
theorem LCalls.pop {f : FuncId} {args S G : List LV} {r : LV} {n : Nat} (h : LCalls P f args S r (S ++ G)) (hr : noId n r = true) : LCalls P f args S r S := by
  intro c vs o hl hrep hsto hsep hlt
  refine (h c vs o hl hrep hsto hsep hlt).mono ?_
  rintro e w' ⟨c', v, o', he, hw, hext, hrp, hst, hsp, hown, henv⟩
  let o2 : Ow := fun k => match k with
    | .sto id => if id < S.length then o' (.sto id) else []
    | k => o' k
  have sub : ∀ k g, g ∈ o2 k → g ∈ o' k := fun k g hg => by
    cases k with
    | sto id => simp only [o2] at hg; split at hg; exact hg; simp at hg
    | env t => exact hg
    | arg i => exact hg
  refine ⟨c'.cut c.n, v, o2, he, hw, ⟨Nat.le_refl _, hext.ι, hext.I, hext.cell, hext.size, hext.block, hext.back, hext.fit, hext.os, hext.tape, hext.output⟩, hrp.cutNo hr, ⟨hsto.n, fun id hid => ?_, hst.bd⟩, ⟨fun k => ?_, fun k k' g hne h1 h2 => hsp.dj k k' g hne (sub k g h1) (sub k' g h2)⟩, fun k g hg => hown k g (sub k g hg), henv⟩
  · have h1 : (S ++ G).getD id .any = S.getD id .any := getD_app_lt _ _ _ _ hid
    have h2 := hst.r id (by simp; omega)
    rw [h1] at h2
    simp only [o2, hid, if_true]
    exact h2.cutOld (hsto.r id hid)
  · cases k with
    | sto id => simp only [o2]; split; exact hsp.nd _; exact List.nodup_nil
    | env t => exact hsp.nd _
    | arg i => exact hsp.nd _

theorem LS.enc_dec (s : LS) (x : s.ty) : s.dec (s.enc x) = some x := by
  cases s <;> simp [LS.dec, LS.enc] <;> rfl
theorem encL_decLs : ∀ (l : List LS) (x : LTys l), decLs l (encL l x) = some x
  | [], x => rfl
  | s :: l, x => by simp [decLs, encL, LS.enc_dec, encL_decLs l]; rfl
theorem SH.enc_dec : ∀ (s : SH) (x : s.ty), s.dec (s.enc x) = some x
  | .lf s, x => by
    have h := LS.enc_dec s x
    show SH.dec (.lf s) (s.enc x) = some x
    exact h
  | .agg l, x => encL_decLs l x
  | .lbox l, x => encL_decLs l x
  | .fn f l, x => by
    show (match Nat.beq f f with | true => decLs l (encL l x) | false => none) = some x
    rw [Nat.beq_refl]; exact encL_decLs l x
theorem Mk.enc_dec : ∀ (m : Mk) (x : m.ty), m.dec (m.enc x) = some x
  | [], _ => rfl
  | none :: m, x => Mk.enc_dec m x
  | some s :: m, x => by
    show (match s.dec (s.enc x.1) with | some y => (match Mk.dec m (Mk.enc m x.2) with | some z => some (y, z) | none => none) | none => none) = some x
    rw [SH.enc_dec, Mk.enc_dec m]; rfl
/-- Results out of one value. -/
def decR (m : Mk) (v : LV) : Option m.ty := match m.dec [v] with
  | some x => some x
  | none => match v with
    | .tup vs => m.dec vs
    | _ => none
theorem Mk.enc_len : ∀ (m : Mk) (x : m.ty), (m.enc x).length = m.length
  | [], _ => rfl
  | none :: m, x => by
    show (LV.any :: Mk.enc m x).length = _
    simp [Mk.enc_len m x]
  | some s :: m, x => by simp [Mk.enc, Mk.enc_len m]
theorem Mk.dec_len : ∀ (m : Mk) (vs : List LV) (x : m.ty), m.dec vs = some x → vs.length = m.length := fun m vs x h => by rw [Mk.dec_enc m vs x h, Mk.enc_len]
theorem decR_enc (m : Mk) (x : m.ty) : decR m (resE m x) = some x := by
  unfold decR resE
  have hl := Mk.enc_len m x
  have hd := Mk.enc_dec m x
  match hm : m.enc x with
  | [v] =>
    rw [hm] at hd
    simp [pack, hd]
  | [] =>
    rw [hm] at hd hl
    have : m.dec [LV.tup []] = none := by
      cases h : m.dec [LV.tup []] with
      | none => rfl
      | some y => have := Mk.dec_len m _ y h; simp at this hl; omega
    simp [pack, this, hd]
  | v :: u :: l =>
    rw [hm] at hd hl
    have : m.dec [LV.tup (v :: u :: l)] = none := by
      cases h : m.dec [LV.tup (v :: u :: l)] with
      | none => rfl
      | some y => have := Mk.dec_len m _ y h; simp at this hl; omega
    simp [pack, this, hd]
theorem decR_some {m : Mk} {v : LV} {x : m.ty} (h : decR m v = some x) (hp : ∃ y, v = resE m y) : v = resE m x := by
  obtain ⟨y, rfl⟩ := hp
  rw [decR_enc] at h
  cases h; rfl

open Classical in
/-- An answer that names nothing that was made: what was made is forgotten. -/
noncomputable def popK (rs : Mk) (n : Nat) (S : List LV) (m : Option (LV × List LV)) (K : rs.ty → List LV → Option R) : Option R := match m with
  | some (v, S') => if noId n v = true ∧ (∃ G, S' = S ++ G) ∧ ∃ y, v = resE rs y then (match decR rs v with
    | some r => K r S
    | none => none) else none
  | none => none
theorem pop_ok {f : FuncId} {ps rs : Mk} {n : Nat} {g : ps.ty → List LV → (LV → List LV → Option (LV × List LV)) → Option (LV × List LV)} (h : HSound P f (hT ps g)) :
    HSound P f (hT (R := R) ps fun x S K => popK rs n S (g x S fun v S => some (v, S)) fun r S => K (resE rs r) S) := by
  intro args S K r h1
  unfold hT at h1
  split at h1
  · rename_i hl
    split at h1
    · rename_i x hx
      unfold popK at h1
      dsimp only at h1
      split at h1
      · rename_i v1 S1 he
        split at h1
        · rename_i hg
          obtain ⟨h2, ⟨G, rfl⟩, h3⟩ := hg
          split at h1
          · rename_i r1 hr1
            have hv := decR_some hr1 h3
            have ht : hT ps g args S (fun v S => some (v, S)) = some (v1, S ++ G) := by
              unfold hT
              rw [hl, hx]
              exact he
            obtain ⟨hen, v', S', hc, hk⟩ := h args S _ _ ht
            cases hk
            exact ⟨hen, _, S, by rw [← hv]; exact hc.pop h2, h1⟩
          · cases h1
        · cases h1
      · cases h1
    · cases h1
  · cases h1
theorem popK_at {rs : Mk} {n : Nat} {S G : List LV} {r : rs.ty} {K : rs.ty → List LV → Option R} {m : Option (LV × List LV)} (hm : m = some (resE rs r, S ++ G)) (hr : noId n (resE rs r) = true) : popK rs n S m K = K r S := by
  subst hm
  unfold popK
  dsimp only
  rw [if_pos ⟨hr, ⟨G, rfl⟩, r, rfl⟩, decR_enc]
/-- slices.Clone: what is cloned may be nil. -/
def cloneF (bytes : Nat) (x : List LV × Unit) : Option (List LV × Unit) := match decide ((0 + x.1.length) * bytes ≤ 140737488355328 ∧ 0 + x.1.length ≤ 9223372036854775807) with
  | true => some (x.1, ())
  | false => none
theorem cloneF_some {bytes : Nat} {xs : List LV} {u : Unit} {r : List LV × Unit} (h : cloneF bytes (xs, u) = some r) : r = (xs, ()) ∧ decide ((([] : List LV).length + xs.length) * bytes ≤ 140737488355328 ∧ ([] : List LV).length + xs.length ≤ 9223372036854775807) = true := by
  simp only [cloneF] at h
  split at h
  · rename_i hd; cases h; exact ⟨rfl, hd⟩
  · cases h
theorem app_at {b : Nat} {ys xs : List LV} {K : List LV → Option R} (h : decide ((ys.length + xs.length) * b ≤ 140737488355328 ∧ ys.length + xs.length ≤ 9223372036854775807) = true) : app b ys xs K = K (ys ++ xs) := by
  unfold app
  rw [h]
  rfl
end
end Go.Lm
