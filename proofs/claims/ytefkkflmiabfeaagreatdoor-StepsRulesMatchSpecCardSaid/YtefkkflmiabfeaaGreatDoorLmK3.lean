/- Library functions of this seat, by their contracts: the keys of a map in order. -/
import Derived.Test.YtefkkflmiabfeaaGreatDoorLmK
import Derived.Test.YtefkkflmiabfeaaGreatDoorLmHk
import Derived.Shelf.SortM.Plain
import Derived.Shelf.SortM.SortNone
set_option linter.unusedVariables false
set_option linter.unusedSimpArgs false
set_option maxRecDepth 100000
namespace Go.Lm
open Go.Proofs Go.RowKit Go.Maps Go.Sort Go.Shelf
section
variable {R : Type}
theorem pk_len {kvs : List (LV × LV)} {D0 : List (Lit × DataW Unit)} {lit : LV → Lit} (h : (D0.map Prod.fst).Perm (kvs.map fun kv => lit kv.1)) : D0.length = kvs.length := by
  have := h.length_eq
  simpa using this
theorem H.sortsS (m : Nat) : AnyZ.SortsIn Tryz.prog Tryz.sortedS_ren Fence.wide m :=
  ⟨fun blk off cap ss W hH hblk hsz => callsIn_wide.2 (AnyM.slices_Sort_string Tryz.sortS blk off cap ss W hH hblk hsz), fun p cap W => callsIn_wide.2 (AnyM.slices_Sort_string_none Tryz.sortS p cap W)⟩
def H.keySok (kvs : List (LV × LV)) : Bool := decide (kvs.length * 16 ≤ 140737488355328) && kvs.all fun kv => decide ((keyS kv.1).length ≤ 9223372036854775807)
theorem H.sortedS_calls {kvs : List (LV × LV)} (hok : H.keySok kvs = true) (w : World) (b gm : Nat) (es : Array MapEntry) (clock : Nat) (hc : w.cell? ⟨b, 0, none⟩ = some (.map (some gm))) (hb : b < w.heap.size) (hh : w.heap[gm]? = some (.map es clock)) (hst : MapKept.Stamped es clock) (hs : es.size = kvs.length)
    (hk : ∀ i, i < kvs.length → rigid (kvs.getD i (.any, .any)).1 = some (es.getD i ⟨undef, undef, 0⟩).key ∧ keyOk .str (kvs.getD i (.any, .any)).1 = true) :
    Calls Tryz.prog 44 #[.func (.func 74) #[] #[.pointer (some ⟨b, 0, none⟩)]] w fun en w' => ∃ v, en = .returned v ∧ w'.ownsRow w.heap.size 9 1 v ((sortS kvs).map fun l => LV.str ⟨l.toArray⟩).length ((sortS kvs).map encStr) ∧ Below w.heap.size w w' := by
  simp only [H.keySok, Bool.and_eq_true, decide_eq_true_eq, List.all_eq_true] at hok
  have hml : kvs.length ≤ maxLen := by unfold maxLen; omega
  have hkey : ∀ i, i < kvs.length → keyOf Tryz.prog 9 (es.getD i ⟨undef, undef, 0⟩).key = some ((fun x => Lit.string (keyS x)) (kvs.getD i (.any, .any)).1) := fun i hi => by
    obtain ⟨h1, h2⟩ := hk i hi
    have hm : kvs.getD i (.any, .any) ∈ kvs := by simp [List.getD_eq_getElem?_getD, hi]
    have h3 := hok.2 _ hm
    generalize (kvs.getD i (.any, .any)).1 = x at h1 h2 h3
    cases x <;> simp only [keyOk] at h2 <;> try (cases h2; done)
    rename_i s
    simp only [rigid, Option.some.injEq] at h1
    rw [← h1]
    exact WideMaps.keyOf_string_mk (by kernel_rfl) (by unfold maxLen; simpa [keyS] using h3)
  obtain ⟨D0, hown, hperm⟩ := own_keys (k := 9) hh hst hs hml (fun x => Lit.string (keyS x)) hkey
  have hlen := pk_len (lit := fun x => Lit.string (keyS x)) hperm
  have hks : (strKeys (DataW.map D0)).Perm (kvs.map fun kv => keyS kv.1) := by
    have h := hperm.map Go.strOf
    simp only [List.map_map] at h
    exact h
  have hseq : SeqGives Fence.wide 2 Tryz.prog 74 #[.pointer (some ⟨b, 0, none⟩)] encStr (fun ss => ss.Perm (strKeys (DataW.map D0))) (Maps.size (DataW.map D0)) w :=
    AnyZ.keys_gives (ρ := Tryz.keysS_ren) { Tryz.keysS with } Fence.wide _ trivial rfl (by omega) b gm es.size (DataW.map D0) w hb hc hown
  have cS := AnyZ.sorted_in Tryz.sortedS Fence.wide 5 trivial trivial trivial trivial rfl (by omega) (H.sortsS _) (enters_of Tryz.func73 (by kernel_rfl) rfl) 74 #[.pointer (some ⟨b, 0, none⟩)] trivial (enters_of Tryz.func74 (by kernel_rfl) rfl) _ _
    (by show D0.length ≤ _; rw [hlen]; exact hml) (by show D0.length * 16 ≤ _; rw [hlen]; exact hok.1) w hseq
  change CallsIn _ _ Tryz.prog 44 _ _ _ at cS
  refine ((callsIn_wide (n := 5)).1 cS).mono ?_
  rintro e w' ⟨v, ss, rfl, hS, hrow, _, hb⟩
  have e1 : ss.mergeSort (fun x y => decide (x ≤ y)) = sortS kvs := sort_perm (r := fun x y : List UInt8 => x ≤ y) (fun _ _ _ => List.le_trans) List.le_total (fun _ _ => List.le_antisymm) (hS.trans hks)
  have e2 : ss.length = ((sortS kvs).map fun l => LV.str ⟨l.toArray⟩).length := by rw [List.length_map, ← e1, List.length_mergeSort]
  rw [e1, e2] at hrow
  exact ⟨v, rfl, hrow, hb⟩
abbrev H.SortedS.ps : Mk := [some (.fn 74 [.ptr])]
abbrev H.SortedS.rs : Mk := [some (.lf (.sl 1))]
def sortedSF (S : List LV) (x : ((Nat × Nat) × Unit) × Unit) : Option ((List LV × Unit) × List LV) := match S.getD x.1.1.1 .any with
  | .obj _ [.map m] => (match S.getD m .any with
    | .mp .str kvs => (match Nat.beq x.1.1.2 0 && H.keySok kvs with
      | true => some (((sortS kvs).map fun l => LV.str ⟨l.toArray⟩, ()), S)
      | false => none)
    | _ => none)
  | _ => none
def H.SortedS.fn (_k : Nat) (x : ((Nat × Nat) × Unit) × Unit) (S : List LV) (K : List LV × Unit → List LV → Option R) : Option R := match sortedSF S x with | some r => K r.1 r.2 | none => none
def H.SortedS.h (k : Nat) : Hd R := hT H.SortedS.ps fun x S K => H.SortedS.fn k x S fun r S => K (resE H.SortedS.rs r) S
theorem rigids_strL : ∀ l : List (List UInt8), rigids (l.map fun b => LV.str ⟨b.toArray⟩) = some (l.map encStr)
  | [] => rfl
  | b :: l => by simp only [List.map_cons, rigids, rigid, rigids_strL l, encStr]
theorem H.SortedS.calls {S S' : List LV} {x : ((Nat × Nat) × Unit) × Unit} {r : List LV × Unit} (h : sortedSF S x = some (r, S')) : LCalls Tryz.prog 44 (H.SortedS.ps.enc x) S (resE H.SortedS.rs r) S' := by
  obtain ⟨⟨⟨id, p⟩, u⟩, u2⟩ := x
  unfold sortedSF at h
  split at h
  · rename_i ty m hS1
    split at h
    · rename_i kvs hS2
      split at h
      · rename_i hb
        rw [Bool.and_eq_true] at hb
        have e1 : p = 0 := Nat.eq_of_beq_eq_true hb.1
        subst e1
        cases h
        refine LCalls.sorted (e := 9) hS1 hS2 (rigids_strL _) ?_ fun w b gm es clock h1 h2 h3 h4 h5 h6 => H.sortedS_calls hb.2 w b gm es clock h1 h2 h3 h4 h5 h6
        have := hb.2
        simp only [H.keySok, Bool.and_eq_true, decide_eq_true_eq] at this
        simp only [List.length_map, sortS, List.length_mergeSort]; omega
      · cases h
    · cases h
  · cases h
theorem H.SortedS.ok (k : Nat) : HSound Tryz.prog 44 (H.SortedS.h (R := R) k) :=
  hand_okS (enters_ok Tryz.func44 (by kernel_rfl) (by kernel_rfl)) (ps := H.SortedS.ps) (rs := H.SortedS.rs) (g := sortedSF) (fun S x K => by unfold H.SortedS.fn; cases sortedSF S x <;> rfl) fun x S r S' h => H.SortedS.calls h
theorem H.sortsI (m : Nat) : AnyZI.SortsIn Tryz.prog Tryz.sortedI_ren Fence.wide m :=
  ⟨fun blk off cap ss W hH hblk hsz => callsIn_wide.2 (AnyM.slices_Sort_int Tryz.sortI blk off cap ss W hH hblk hsz), fun p cap W => callsIn_wide.2 (AnyM.slices_Sort_int_none Tryz.sortI p cap W)⟩
def H.keyIok (kvs : List (LV × LV)) : Bool := decide (kvs.length * 8 ≤ 140737488355328) && kvs.all fun kv => decide (-9223372036854775808 ≤ keyI kv.1 ∧ keyI kv.1 ≤ 9223372036854775807)
theorem H.sortedI_calls {kvs : List (LV × LV)} (hok : H.keyIok kvs = true) (w : World) (b gm : Nat) (es : Array MapEntry) (clock : Nat) (hc : w.cell? ⟨b, 0, none⟩ = some (.map (some gm))) (hb : b < w.heap.size) (hh : w.heap[gm]? = some (.map es clock)) (hst : MapKept.Stamped es clock) (hs : es.size = kvs.length)
    (hk : ∀ i, i < kvs.length → rigid (kvs.getD i (.any, .any)).1 = some (es.getD i ⟨undef, undef, 0⟩).key ∧ keyOk (.int .i64) (kvs.getD i (.any, .any)).1 = true) :
    Calls Tryz.prog 51 #[.func (.func 80) #[] #[.pointer (some ⟨b, 0, none⟩)]] w fun en w' => ∃ v, en = .returned v ∧ w'.ownsRow w.heap.size 3 1 v ((sortI kvs).map fun n => LV.int .i64 n).length ((sortI kvs).map encZ) ∧ Below w.heap.size w w' := by
  simp only [H.keyIok, Bool.and_eq_true, decide_eq_true_eq, List.all_eq_true] at hok
  have hml : kvs.length ≤ maxLen := by unfold maxLen; omega
  have hkey : ∀ i, i < kvs.length → keyOf Tryz.prog 3 (es.getD i ⟨undef, undef, 0⟩).key = some ((fun x => Lit.int .i64 (keyI x)) (kvs.getD i (.any, .any)).1) := fun i hi => by
    obtain ⟨h1, h2⟩ := hk i hi
    have hm : kvs.getD i (.any, .any) ∈ kvs := by simp [List.getD_eq_getElem?_getD, hi]
    have h3 := hok.2 _ hm
    generalize (kvs.getD i (.any, .any)).1 = x at h1 h2 h3
    cases x <;> simp only [keyOk] at h2 <;> try (cases h2; done)
    rename_i k s
    have := ikN_inj h2
    subst this
    simp only [rigid, Option.some.injEq] at h1
    rw [← h1]
    exact keyOf_int_mk (by kernel_rfl) (by
      simp only [keyI] at h3
      simp only [Lit.wf, IntKind.min, IntKind.max, IntKind.bits, IntKind.signed, Bool.and_eq_true, decide_eq_true_eq]
      exact ⟨h3.1, h3.2⟩)
  obtain ⟨D0, hown, hperm⟩ := own_keys (k := 3) hh hst hs hml (fun x => Lit.int .i64 (keyI x)) hkey
  have hlen := pk_len (lit := fun x => Lit.int .i64 (keyI x)) hperm
  have hks : (intKeys (DataW.map D0)).Perm (kvs.map fun kv => keyI kv.1) := by
    have h := hperm.map Go.intOf
    simp only [List.map_map] at h
    exact h
  have hseq : SeqGives Fence.wide 2 Tryz.prog 80 #[.pointer (some ⟨b, 0, none⟩)] encZ (fun ss => ss.Perm (intKeys (DataW.map D0))) (Maps.size (DataW.map D0)) w :=
    AnyZI.keys_gives (ρ := Tryz.keysI_ren) { Tryz.keysI with } Fence.wide _ trivial rfl (by omega) b gm es.size (DataW.map D0) w hb hc hown
  have cS := AnyZI.sorted_in Tryz.sortedI Fence.wide 5 trivial trivial trivial trivial rfl (by omega) (H.sortsI _) (enters_of Tryz.func79 (by kernel_rfl) rfl) 80 #[.pointer (some ⟨b, 0, none⟩)] trivial (enters_of Tryz.func80 (by kernel_rfl) rfl) _ _
    (by show D0.length ≤ _; rw [hlen]; exact hml) (by show D0.length * 8 ≤ _; rw [hlen]; exact hok.1) w hseq
  change CallsIn _ _ Tryz.prog 51 _ _ _ at cS
  refine ((callsIn_wide (n := 5)).1 cS).mono ?_
  rintro e w' ⟨v, ss, rfl, hS, hrow, _, hb⟩
  have e1 : ss.mergeSort (fun x y => decide (x ≤ y)) = sortI kvs := sort_perm (r := fun x y : Int => x ≤ y) (fun _ _ _ => Int.le_trans) Int.le_total (fun _ _ => Int.le_antisymm) (hS.trans hks)
  have e2 : ss.length = ((sortI kvs).map fun n => LV.int .i64 n).length := by rw [List.length_map, ← e1, List.length_mergeSort]
  rw [e1, e2] at hrow
  exact ⟨v, rfl, hrow, hb⟩
abbrev H.SortedI.ps : Mk := [some (.fn 80 [.ptr])]
abbrev H.SortedI.rs : Mk := [some (.lf (.sl 1))]
def sortedIF (S : List LV) (x : ((Nat × Nat) × Unit) × Unit) : Option ((List LV × Unit) × List LV) := match S.getD x.1.1.1 .any with
  | .obj _ [.map m] => (match S.getD m .any with
    | .mp (.int .i64) kvs => (match Nat.beq x.1.1.2 0 && H.keyIok kvs with
      | true => some (((sortI kvs).map fun n => LV.int .i64 n, ()), S)
      | false => none)
    | _ => none)
  | _ => none
def H.SortedI.fn (_k : Nat) (x : ((Nat × Nat) × Unit) × Unit) (S : List LV) (K : List LV × Unit → List LV → Option R) : Option R := match sortedIF S x with | some r => K r.1 r.2 | none => none
def H.SortedI.h (k : Nat) : Hd R := hT H.SortedI.ps fun x S K => H.SortedI.fn k x S fun r S => K (resE H.SortedI.rs r) S
theorem rigids_intL : ∀ l : List Int, rigids (l.map fun n => LV.int .i64 n) = some (l.map encZ)
  | [] => rfl
  | b :: l => by simp only [List.map_cons, rigids, rigid, rigids_intL l, encZ]
theorem H.SortedI.calls {S S' : List LV} {x : ((Nat × Nat) × Unit) × Unit} {r : List LV × Unit} (h : sortedIF S x = some (r, S')) : LCalls Tryz.prog 51 (H.SortedI.ps.enc x) S (resE H.SortedI.rs r) S' := by
  obtain ⟨⟨⟨id, p⟩, u⟩, u2⟩ := x
  unfold sortedIF at h
  split at h
  · rename_i ty m hS1
    split at h
    · rename_i kvs hS2
      split at h
      · rename_i hb
        rw [Bool.and_eq_true] at hb
        have e1 : p = 0 := Nat.eq_of_beq_eq_true hb.1
        subst e1
        cases h
        refine LCalls.sorted (e := 3) hS1 hS2 (rigids_intL _) ?_ fun w b gm es clock h1 h2 h3 h4 h5 h6 => H.sortedI_calls hb.2 w b gm es clock h1 h2 h3 h4 h5 h6
        have := hb.2
        simp only [H.keyIok, Bool.and_eq_true, decide_eq_true_eq] at this
        simp only [List.length_map, sortI, List.length_mergeSort]; omega
      · cases h
    · cases h
  · cases h
theorem H.SortedI.ok (k : Nat) : HSound Tryz.prog 51 (H.SortedI.h (R := R) k) :=
  hand_okS (enters_ok Tryz.func51 (by kernel_rfl) (by kernel_rfl)) (ps := H.SortedI.ps) (rs := H.SortedI.rs) (g := sortedIF) (fun S x K => by unfold H.SortedI.fn; cases sortedIF S x <;> rfl) fun x S r S' h => H.SortedI.calls h
end
end Go.Lm
