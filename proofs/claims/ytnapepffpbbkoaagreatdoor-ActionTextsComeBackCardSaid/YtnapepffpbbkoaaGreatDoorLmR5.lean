/- Builders: what is written to them. -/
import Derived.Test.YtnapepffpbbkoaaGreatDoorLmU7
set_option maxRecDepth 100000
namespace Go.Lm
section
variable {R : Type}
/-- A builder's cells. -/
def bldC (id : Nat) (acc : Option ByteArray) : List LV := match acc with
  | none => [.nilp, .nilsl]
  | some b => [.ptr id 0, .own tyU8 1 (bytesL b)]
def accB (acc : Option ByteArray) : ByteArray := acc.getD (bs [])
abbrev bldS (S : List LV) (acc : Option ByteArray) : List LV := S ++ [.obj H.builderT (bldC S.length acc)]
theorem bldS_at (S : List LV) (acc : Option ByteArray) (K : Nat → List LV → Option R) : objAt (bldS S acc) S.length K = K H.builderT (bldC S.length acc) := objAt_at (T := []) K
theorem copyCheck_at (k : Nat) (S : List LV) (acc : Option ByteArray) (K : Unit → List LV → Option R) :
    H.copyCheck.fn k ((S.length, 0), ()) (bldS S acc) K = K () (S ++ [.obj H.builderT [.ptr S.length 0, (bldC S.length acc).getD 1 .any]]) := by
  unfold H.copyCheck.fn ccF
  have e : (bldS S acc).getD S.length .any = .obj H.builderT (bldC S.length acc) := by simp [List.getD_eq_getElem?_getD]
  rw [e]
  cases acc with
  | none =>
    unfold bldC
    dsimp only
    rw [setLast]
    rfl
  | some b =>
    unfold bldC
    dsimp only
    have e0 : (Nat.beq H.builderT H.builderT && Nat.beq 0 0 && Nat.beq ([LV.own tyU8 1 (bytesL b)] : List LV).length 1) = true := rfl
    have : (Nat.beq S.length S.length && Nat.beq 0 0) = true := by simp
    rw [e0]
    dsimp only
    rw [this]
    rfl
theorem bytesL_app (a b : ByteArray) : bytesL a ++ bytesL b = bytesL (a ++ b) := by
  unfold bytesL
  rw [← List.map_append]
  congr 1
theorem write_at (k : Nat) (S : List LV) (acc : Option ByteArray) (s : ByteArray) (hs : (accB acc).size + s.size ≤ 140737488355328) (S' : List LV) (hS' : S' = S ++ [.obj H.builderT [.ptr S.length 0, (bldC S.length acc).getD 1 .any]]) (K : List LV → Option R) :
    (objAt S' S.length fun ty c2 => asOwn 5 1 (c2.getD (0 + 1) .any) fun l3 => setS (S'.set S.length (.obj ty (c2.set (0 + 1) (.sl 1 l3)))) fun S2 => app 1 l3 (bytesL s) fun l4 => objAt S2 S.length fun ty c5 => stO c5 (0 + 1) [(.own 5 1 l4)] fun c6 => setS (S2.set S.length (.obj ty c6)) fun S => K S) = K (bldS S (some (accB acc ++ s))) := by
  subst hS'
  rw [objAt_at (T := [])]
  have hown : ∀ (K' : List LV → Option R), asOwn 5 1 (([.ptr S.length 0, (bldC S.length acc).getD 1 .any] : List LV).getD (0 + 1) .any) K' = K' (bytesL (accB acc)) := fun K' => by
    cases acc with
    | none => rfl
    | some b => rfl
  rw [hown]
  unfold setS
  dsimp only
  rw [setLast, app_le (by rw [bytesL_len, bytesL_len]; omega) (by rw [bytesL_len, bytesL_len]; omega), bytesL_app, objAt_at (T := [])]
  unfold stO
  have e : Nat.ble (0 + 1 + ([LV.own 5 1 (bytesL (accB acc ++ s))] : List LV).length) (([LV.ptr S.length 0, (bldC S.length acc).getD 1 .any] : List LV).set (0 + 1) (.sl 1 (bytesL (accB acc)))).length = true := rfl
  rw [e, ifB_true]
  show K (List.set _ _ _) = _
  rw [setLast]
  rfl
theorem WriteString_at (k : Nat) (S : List LV) (acc : Option ByteArray) (s : ByteArray) (hs : (accB acc).size + s.size ≤ 140737488355328) (K : Int × Unit × Unit → List LV → Option R) :
    G.strings_Builder_WriteString.fn k ((S.length, 0), s, ()) (bldS S acc) K = K ((s.size : Int), (), ()) (bldS S (some (accB acc ++ s))) := by
  unfold G.strings_Builder_WriteString.fn
  dsimp only
  rw [copyCheck_at]
  exact write_at k S acc s hs _ rfl (fun S => K ((s.size : Int), (), ()) S)
theorem String_at (k : Nat) (S : List LV) (b : ByteArray) (h0 : 0 < b.size) (K : ByteArray × Unit → List LV → Option R) : H.bString.fn k ((S.length, 0), ()) (bldS S (some b)) K = K (b, ()) (S ++ [.any]) := by
  unfold H.bString.fn bsF
  have e : (bldS S (some b)).getD S.length .any = .obj H.builderT (bldC S.length (some b)) := by simp [List.getD_eq_getElem?_getD]
  rw [e]
  unfold bldC
  dsimp only
  have e2 : strB (bytesL b) = some b.data.toList := strB_map _
  have e3 : (bytesL b).isEmpty = false := by
    have := bytesL_len b
    cases h : bytesL b with
    | nil => rw [h] at this; simp at this; omega
    | cons => rfl
  rw [e2, e3, setLast]
  rfl
end
end Go.Lm
