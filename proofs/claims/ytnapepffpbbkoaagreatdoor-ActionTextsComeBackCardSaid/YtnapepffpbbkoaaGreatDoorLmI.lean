/- Numbers that are written. -/
import Derived.Test.YtnapepffpbbkoaaGreatDoorLmU7
set_option maxRecDepth 100000
namespace Go.Lm
section
variable {R : Type}
def itoaS (n : Int) : ByteArray := ⟨(Lib.itoa n).toArray⟩
abbrev HasPow (S : List LV) : Prop := HasGlob S H.powG H.powA
theorem Itoa_at (k : Nat) {S : List LV} (h : HasPow S) (n : Int) (h0 : -9223372036854775808 ≤ n) (h1 : n ≤ 9223372036854775807) (K : ByteArray × Unit → List LV → Option R) : H.Itoa.fn k (n, ()) S K = K (itoaS n, ()) S := by
  unfold H.Itoa.fn itoaF
  have hok : H.ItoaOk S n := ⟨h, h0, h1⟩
  rw [show (Classical.propDecidable (H.ItoaOk S (n, ()).1)).decide = true from @decide_eq_true _ (Classical.propDecidable _) hok]
  rfl
end
end Go.Lm
