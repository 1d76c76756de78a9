/- The law ResultsMatchSpec's function answers true. -/
import Derived.Test.YtnapepffpbbkoaaGreatDoorLmR10
set_option maxRecDepth 100000
namespace Go.Lm
section
variable {R : Type}
def Res.cp (x : Res) : Res := ⟨x.code, x.text, x.files.map File.cp, x.looks, x.cmd⟩
theorem cp_filesT (l : List File) (h : ByteArray) : ∀ i, filesT (l.map File.cp) h i = filesT l h i
  | 0 => rfl
  | i + 1 => by
    simp only [filesT]
    rw [cp_filesT l h i]
    unfold fileLineS
    rw [cp_p, cp_b, cp_r]
theorem cp_checkRes (x : Res) : checkResS x.cp = checkResS x := by
  unfold checkResS tailS Res.cp
  simp only [cp_check, List.length_map]
theorem cp_textS (x : Res) : textS x.cp = textS x := by
  have hh : headS x.cp = headS x := rfl
  unfold textS
  rw [hh]
  unfold Res.cp
  simp only [cp_filesT, List.length_map]
theorem cp_resText (x : Res) : resTextS x.cp = resTextS x := by
  unfold resTextS
  rw [cp_checkRes, cp_textS]
theorem law2 {k : Nat} (hk : Many k) (x : Res) (hf : x.files.length * 48 ≤ 140737488355328) (hl : x.looks.length * 40 ≤ 140737488355328) (ok : ResOk x) {S : List LV} (hS : HasPow S) (K : Bool × Unit → List LV → Option R) :
    G.smithyardlaw5_ResultsMatchSpec.fn k (x.tup, ()) S K = K (true, ()) S := by
  have okc : ResOk x.cp := ⟨ok.t, cp_ok ok.f, ok.d⟩
  unfold G.smithyardlaw5_ResultsMatchSpec.fn G.smithyardref5_CopyResult.fn
  dsimp only
  rw [ref_CopyFiles hk x.files hf ok.f]
  dsimp only
  unfold G.slices_Clone_s_api_Look_api_Look_c.fn handF
  rw [cloneL (by rw [List.length_map]; exact hl) (by rw [List.length_map]; omega)]
  dsimp only
  rw [prog_ResultText hk x ok hS]
  dsimp only
  show G.smithyardref5_ResultText.fn k (x.cp.tup, ()) S _ = _
  rw [ref_ResultText hk x.cp okc hS, cp_resText]
  dsimp only
  rw [prog_CheckResult hk x ok]
  dsimp only
  show G.smithyardref5_CheckResult.fn k (x.cp.tup, ()) S _ = _
  rw [ref_CheckResult hk x.cp okc, cp_checkRes]
  dsimp only
  rw [beq_self_eq_true, ifB_true, (strEq_iff _ _).2 rfl, ifB_true, beq_self_eq_true, ifB_true]
  unfold G.smithyardref5_SameResult.fn
  dsimp only
  rw [beq_self_eq_true, ifB_true, (strEq_iff _ _).2 rfl, ifB_true, ref_SameFiles hk x.files ok.f]
  dsimp only
  rw [ifB_true, ref_Equal hk _ _ (by omega), eqLooks_refl]
  dsimp only
  rw [ifB_true, beq_self_eq_true, ifB_true, prog_awake hk]
end
end Go.Lm
