/- The text of a result. -/
import Derived.Test.YtnapepffpbbkoaaGreatDoorLmR5
set_option maxRecDepth 100000
namespace Go.Lm
section
variable {R : Type}
def itoaS (n : Int) : ByteArray := ⟨(Lib.itoa n).toArray⟩
abbrev HasPow (S : List LV) : Prop := HasGlob S H.powG H.powA
theorem Itoa_at (k : Nat) {S : List LV} (h : HasPow S) (n : Int) (h0 : -9223372036854775808 ≤ n) (h1 : n ≤ 9223372036854775807) (K : ByteArray × Unit → List LV → Option R) : H.Itoa.fn k (n, ()) S K = K (itoaS n, ()) S := by
  unfold H.Itoa.fn itoaF
  have hok : H.ItoaOk S n := ⟨h, h0, h1⟩
  rw [show (Classical.propDecidable (H.ItoaOk S (n, ()).1)).decide = true from @decide_eq_true _ (Classical.propDecidable _) hok]
  rfl
def headS (x : Res) : ByteArray := (((((bs [99, 111, 100, 101, 32] ++ itoaS x.code) ++ bs [32]) ++ itoaS x.cmd) ++ bs [10, 116, 101, 120, 116, 32]) ++ itoaS (x.text.size : Int)) ++ bs [10] ++ x.text
def fileLineS (f : File) : ByteArray := ((((bs [102, 105, 108, 101, 32] ++ f.p) ++ bs [32]) ++ signS f.r) ++ bs [32]) ++ itoaS (f.b.size : Int) ++ bs [10]
def filesT (l : List File) (h : ByteArray) : Nat → ByteArray
  | 0 => h
  | i + 1 => filesT l h i ++ ((fileLineS (l.getD i .zero) ++ (l.getD i .zero).b) ++ bs [10])
def looksT (l : List Look) (h : ByteArray) : Nat → ByteArray
  | 0 => h
  | i + 1 => looksT l h i ++ lookLineS (l.getD i .zero)
def textS (x : Res) : ByteArray := looksT x.looks (filesT x.files (headS x) x.files.length) x.looks.length
def resTextS (x : Res) : ByteArray × Int := match checkResS x == 0 with
  | false => (bs [], checkResS x)
  | true => match decide ((textS x).size > 4000000) with
    | true => (bs [], 2)
    | false => (textS x, 0)
/-- What is known of a right result. -/
structure ResRight (x : Res) : Prop where
  code : 0 ≤ x.code ∧ x.code ≤ 999999
  cmd : 0 ≤ x.cmd ∧ x.cmd ≤ 50
  text : x.text.size ≤ 100000
  files : x.files.length ≤ 1000 ∧ ∀ f ∈ x.files, f.p.size ≤ 200 ∧ f.b.size ≤ 100000
  looks : x.looks.length ≤ 4000 ∧ ∀ y ∈ x.looks, y.p.size ≤ 200 ∧ y.d.size ≤ 16
end
end Go.Lm
