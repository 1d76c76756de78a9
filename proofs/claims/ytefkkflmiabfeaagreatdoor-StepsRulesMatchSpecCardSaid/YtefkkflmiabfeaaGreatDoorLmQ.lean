/- A memory alone is joined to nothing: what every law of the chapter asks at its end. -/
import Derived.Test.YtefkkflmiabfeaaGreatDoorLmR
import Derived.Test.YtefkkflmiabfeaaGreatDoorLmOs
import Derived.Test.YtefkkflmiabfeaaGreatDoorLmT2
set_option linter.unusedVariables false
set_option linter.unusedSimpArgs false
set_option maxRecDepth 100000
namespace Go.Lm
section
variable {R : Type}
theorem quiR_same (S : List LV) (K : List LV → Option R) : quiR S S K = K S := by
  unfold quiR
  rw [if_pos rfl]
abbrev memD : ByteArray := bs [48, 49, 50, 51, 52, 53, 54, 55, 56, 57, 97, 98, 99, 100, 101, 102]
abbrev mem0 : LV := .agg [.str (bs [97]), .str memD, .nilsl, .int .i64 0, .str (bs []), .nilsl, .nilsl, .int .i64 0]
abbrev mem1 : LV := .agg [.str (bs [97]), .str memD, .sl 3 [], .int .i64 0, .str (bs []), .sl 3 [], .sl 3 [], .int .i64 0]
theorem idx_one (v : LV) (K : LV → Option R) : idxL [v] 0 K = K v := rfl
theorem mem_mat (K : List LV → Option R) : mat 8 mem0 K = K [.str (bs [97]), .str memD, .nilsl, .int .i64 0, .str (bs []), .nilsl, .nilsl, .int .i64 0] := rfl
theorem checkMem_nil {k : Nat} (hk : Many k) (S : List LV) (K : Int × Unit → List LV → Option R) : G.steps_CheckMemory.fn k ([], ()) S K = K (0, ()) S := by
  unfold Many at hk
  obtain ⟨m, rfl⟩ : ∃ m, k = m + 1 := ⟨k - 1, by omega⟩
  rfl
theorem looks_nil {k : Nat} (hk : Many k) (S : List LV) (K : Bool × Unit → List LV → Option R) : G.slices_Equal_s_api_Look_api_Look.fn k ([], [], ()) S K = K (true, ()) S := by
  unfold Many at hk
  obtain ⟨m, rfl⟩ : ∃ m, k = m + 1 := ⟨k - 1, by omega⟩
  rfl
theorem mem_b0 {k : Nat} (hk : Many k) (S : List LV) (J0 : Unit → List LV → Option R) (Jret : Int × Unit → List LV → Option R) (rec : List LV × List LV × Int × Int × Unit → List LV → Option R) :
    G.steps_CheckMemory.b0 k J0 Jret rec ([mem0], [mem0], 1, 0, ()) S = rec ([mem0], [mem0], 1, 1, ()) S := by
  have h1 : isPathS (bs [97]) = true := by decide +kernel
  have h2 : isDigestS memD = true := by decide +kernel
  have h3 : checkLooksS [] = 0 := by decide +kernel
  have h4 : checkResS ⟨0, bs [], [], [], 0⟩ = 0 := by decide +kernel
  have e1 : ∀ (K : Bool × Unit → List LV → Option R), G.blob_IsPath.fn k (bs [97], ()) S K = K (true, ()) S := fun K => (prog_IsPath hk (bs [97]) S K).trans (by rw [h1])
  have e2 : ∀ (K : Bool × Unit → List LV → Option R), G.blob_IsDigest.fn k (memD, ()) S K = K (true, ()) S := fun K => (prog_IsDigest memD S K).trans (by rw [h2])
  have e3 : ∀ (K : Int × Unit → List LV → Option R), G.action_CheckLooks.fn k ([], ()) S K = K (0, ()) S := fun K => (prog_CheckLooks hk [] S K).trans (by rw [h3])
  have e4 : ∀ (K : Int × Unit → List LV → Option R), G.action_CheckResult.fn k ((0, bs [], [], [], 0, ()), ()) S K = K (0, ()) S := fun K => (prog_CheckResult hk ⟨0, bs [], [], [], 0⟩ ⟨by decide +kernel, ⟨by simp, by simp, by simp⟩, by simp⟩ S K).trans (by rw [h4])
  unfold G.steps_CheckMemory.b0
  dsimp only
  rw [ifB_pos (by decide), idx_one, mem_mat]
  simp only [List.getD_cons_zero, List.getD_cons_succ, asStr_str, asInt_int, asSl_nil]
  rw [e1, Bool.not_true, ifB_false, e2, Bool.not_true, ifB_false, e3]
  dsimp only
  rw [show ((0 : Int) != 0) = false from rfl, ifB_false, e4]
  unfold G.steps_CheckMemory.q0 G.steps_CheckMemory.q1 G.steps_CheckMemory.q2 G.steps_CheckMemory.q3
  dsimp only
  rw [show ((0 : Int) != 0) = false from rfl, ifB_false, ifB_false, looks_nil hk]
  dsimp only
  rw [Bool.not_true, ifB_false, ifB_neg (by decide)]
  rfl
theorem checkMem_one {k : Nat} (hk : Many k) (S : List LV) (K : Int × Unit → List LV → Option R) : G.steps_CheckMemory.fn k ([mem0], ()) S K = K (0, ()) S := by
  have hk' := hk
  unfold Many at hk'
  obtain ⟨m, hm⟩ : ∃ m, k = m + 2 := ⟨k - 2, by omega⟩
  unfold G.steps_CheckMemory.fn
  dsimp only
  rw [ifB_neg (by decide)]
  conv => lhs; arg 2; rw [hm]
  rw [rounds_succ]
  refine (mem_b0 hk S _ _ _).trans ?_
  rw [rounds_succ]
  unfold G.steps_CheckMemory.b0
  dsimp only
  rw [ifB_neg (by decide)]
/-! ### Copies of nothing -/
theorem clone_look_nil (k : Nat) (S : List LV) (K : List LV × Unit → List LV → Option R) : G.slices_Clone_s_api_Look_api_Look_c.fn k ([], ()) S K = K ([], ()) S := rfl
theorem appO_osl {e z b n id : Nat} {S xs ys : List LV} {K : LV → List LV → Option R} (h : S.getD id .any = .obj e xs ∨ S.getD id .any = .vec e xs) (hz : 0 < z) (hn : n * z ≤ xs.length) (hf : (n + ys.length) * b ≤ 140737488355328) (hm : n + ys.length ≤ 9223372036854775807) :
    appO e z b S (.osl id 0 z n) ys K = K (.osl S.length 0 z (n + ys.length)) (S.set id .any ++ [.vec e (xs.take (n * z) ++ flatC z ys)]) := by
  unfold appO cellsAt
  have h1 : Nat.blt 0 z = true := Nat.ble_eq_true_of_le hz
  have h2 : Nat.ble (n * z) xs.length = true := Nat.ble_eq_true_of_le hn
  have h3 : fitsB n ys.length b = true := decide_eq_true ⟨hf, hm⟩
  dsimp only
  rcases h with h | h <;> rw [h] <;> dsimp only <;> rw [Nat.beq_refl, Nat.beq_refl, Nat.beq_refl, h1, h2, h3] <;> rfl
theorem appO_nil {e z b : Nat} {S ys : List LV} {K : LV → List LV → Option R} (hz : 0 < z) (hy : 0 < ys.length) (hf : ys.length * b ≤ 140737488355328) (hm : ys.length ≤ 9223372036854775807) :
    appO e z b S .nilsl ys K = K (.osl S.length 0 z ys.length) (S ++ [.vec e (flatC z ys)]) := by
  unfold appO
  have h1 : Nat.blt 0 z = true := Nat.ble_eq_true_of_le hz
  have h2 : Nat.blt 0 ys.length = true := Nat.ble_eq_true_of_le hy
  have h3 : fitsB 0 ys.length b = true := decide_eq_true ⟨by rw [Nat.zero_add]; exact hf, by rw [Nat.zero_add]; exact hm⟩
  dsimp only
  rw [h1, h2, h3]; rfl
theorem get_end (S : List LV) (a : LV) : (S ++ [a]).getD S.length .any = a := by simp [List.getD_eq_getElem?_getD]
theorem lenO_osl (i p z n : Nat) (K : Nat → Option R) : lenO (.osl i p z n) K = K n := rfl
theorem own_nsl {k : Nat} (hk : Many k) (S : List LV) : G.blob_Own.fn k (.nsl 3 [], ()) S (fun r S => some (resE G.blob_Own.rs r, S)) = some (resE G.blob_Own.rs ([], ()), S) := by
  unfold Many at hk
  obtain ⟨m, rfl⟩ : ∃ m, k = m + 1 := ⟨k - 1, by omega⟩
  unfold G.blob_Own.fn
  refine popK_at (rs := G.blob_Own.rs) (r := ([], ())) (G := [.any, .any]) ?_ rfl
  unfold G.blob_Own.fn0 G.slices_Clone_s_api_File_api_File_obj.fn
  dsimp only
  simp only [dup, isNil, asSl, newObj, Nat.beq_refl, ifB_true, show (false == true) = false from rfl, ifB_false]
  rw [appO_osl (xs := []) (.inl (get_end _ _)) (by decide) (by simp) (by simp) (by simp)]
  simp only [dup, lenO_osl]
  rw [rounds_succ]
  unfold G.blob_Own.b0
  dsimp only
  rw [ifB_neg (by simp)]
  unfold frzO objAt
  simp [List.getD_eq_getElem?_getD, chunks, flatC]
  rfl
theorem own_nil {k : Nat} (hk : Many k) (S : List LV) : G.blob_Own.fn k (.nilsl, ()) S (fun r S => some (resE G.blob_Own.rs r, S)) = some (resE G.blob_Own.rs ([], ()), S) := by
  unfold Many at hk
  obtain ⟨m, rfl⟩ : ∃ m, k = m + 1 := ⟨k - 1, by omega⟩
  unfold G.blob_Own.fn
  exact popK_at (rs := G.blob_Own.rs) (r := ([], ())) (G := []) (by rw [List.append_nil]; rfl) rfl
theorem own_files_nil {k : Nat} (hk : Many k) (S : List LV) (K : List LV × Unit → List LV → Option R) : G.blob_Own_n.fn k ([], ()) S K = K ([], ()) S :=
  nilK_at (own_nsl hk S) (fun _ => own_nil hk S)
/-! ### One memory, copied -/
theorem objAt_end (S : List LV) (t : Nat) (xs : List LV) (K : (List LV → LV) → List LV → Option R) : objAt (S ++ [.vec t xs]) S.length K = K (.vec t) xs := by
  unfold objAt
  rw [get_end]
theorem set_end (S : List LV) (a b : LV) : (S ++ [a]).set S.length b = S ++ [b] := by simp
abbrev memC : List LV := [.str (bs [97]), .str memD, .sl 3 [], .int .i64 0, .str (bs []), .sl 3 [], .sl 3 [], .int .i64 0]
abbrev memC0 : List LV := [.str (bs [97]), .str memD, .nilsl, .int .i64 0, .str (bs []), .nilsl, .nilsl, .int .i64 0]
abbrev memC2 : List LV := [.str (bs [97]), .str memD, .own 124 3 [], .int .i64 0, .str (bs []), .nilsl, .nilsl, .int .i64 0]
abbrev memC1 : List LV := [.str (bs [97]), .str memD, .own 124 3 [], .int .i64 0, .str (bs []), .sl 3 [], .sl 3 [], .int .i64 0]
theorem oslOr_osl (i p z n : Nat) (A : Nat → Nat → Nat → Nat → Option R) (B : Option R) : oslOr (.osl i p z n) A B = A i p z n := rfl
theorem own_b0 {k : Nat} (hk : Many k) (S : List LV) (J0 : LV × Unit → List LV → Option R) (rec : LV × Int × Int × Unit → List LV → Option R) :
    G.steps_own.b0 k J0 rec (.osl S.length 0 8 1, 1, 0, ()) (S ++ [.vec 62 memC0]) = rec (.osl S.length 0 8 1, 1, 1, ()) (S ++ [.vec 62 memC1]) := by
  unfold G.steps_own.b0
  simp only [dup, oslOr_osl]
  rw [ifB_pos (by decide)]
  simp only [Nat.beq_refl, ifB_true]
  have e : ∀ K : Nat → Option R, idxN 1 0 K = K 0 := fun K => rfl
  have e1 : ∀ K : List LV → Option R, ldSl 3 memC0 (0 + 0 * 8 + 2) K = K [] := fun K => rfl
  have e2 : Nat.ble (0 + 0 * 8 + 3 + 5) memC0.length = true := rfl
  have e3 : ∀ (K : List LV → Option R), stO memC0 2 [.own 124 3 []] K = K memC2 := fun K => rfl
  have e4 : ∀ (K : List LV → Option R), stO memC2 3 [.int .i64 0, .str (bs []), .sl 3 [], .sl 3 [], .int .i64 0] K = K memC1 := fun K => rfl
  have e5 : memC0.map dupL = memC0 := rfl
  have e6 : ∀ (K : (Int × ByteArray × List LV × List LV × Int × Unit) × Unit → List LV → Option R) (S : List LV), G.steps_ownResult.fn k ((0, bs [], [], [], 0, ()), ()) S K = K ((0, bs [], [], [], 0, ()), ()) S := fun K S => by
    unfold G.steps_ownResult.fn
    dsimp only
    rw [own_files_nil hk]
    rfl
  simp only [e, objAt_end, e1, clone_look_nil, quiR_same, e2, ifB_true, e5, List.getD_cons_zero, List.getD_cons_succ, asStr_str, asInt_int, asSl_nil, Nat.zero_mul, Nat.zero_add, Nat.reduceAdd]
  rw [e6]
  simp only [e3, quiR_same, setS_of, set_end, objAt_end, e4]
  rfl
theorem sort_one {k : Nat} (hk : Many k) (id : Nat) (S : List LV) (K : Unit → List LV → Option R) : G.slices_SortFunc_s_api_Memory_api_Memory_at_steps_Joined_1.fn k (.osl id 0 8 1, (), ()) S K = K () S := by
  unfold Many at hk
  obtain ⟨m, hm⟩ : ∃ m, k = m + 1 := ⟨k - 1, by omega⟩
  unfold G.slices_SortFunc_s_api_Memory_api_Memory_at_steps_Joined_1.fn G.math_bits_Len.fn
  simp only [dup, lenO_osl]
  have e1 : ∀ (K : Int × Unit → List LV → Option R), G.math_bits_Len64.fn k (IntKind.wrap .u64 ((1 : Nat) : Int), ()) S K = K (1, ()) S := fun K => by kernel_rfl
  rw [e1]
  unfold G.slices_pdqsortCmpFunc_api_Memory_at_steps_Joined_1.fn
  conv => lhs; arg 2; rw [hm]
  rw [rounds_succ]
  unfold G.slices_pdqsortCmpFunc_api_Memory_at_steps_Joined_1.b0 G.slices_insertionSortCmpFunc_api_Memory_at_steps_Joined_1.fn
  dsimp only
  rw [ifB_pos (by decide)]
  conv => lhs; arg 2; rw [hm]
  rw [rounds_succ]
  unfold G.slices_insertionSortCmpFunc_api_Memory_at_steps_Joined_1.b0
  dsimp only
  rw [ifB_neg (by decide)]
theorem own_one {k : Nat} (hk : Many k) (S : List LV) (K : LV × Unit → List LV → Option R) : G.steps_own.fn k (.sl 8 [mem0], ()) S K = K (.osl (S.length + 1) 0 8 1, ()) (S ++ [.any] ++ [.vec 62 memC1]) := by
  have hk' := hk
  unfold Many at hk'
  obtain ⟨m, hm⟩ : ∃ m, k = m + 2 := ⟨k - 2, by omega⟩
  unfold G.steps_own.fn G.slices_Clone_s_api_Memory_api_Memory_obj.fn
  simp only [dup, isNil, asSl_sl, newObj, ifB_false, show (false == true) = false from rfl]
  rw [appO_osl (xs := []) (.inl (get_end _ _)) (by decide) (by simp) (by simp) (by simp)]
  simp only [dup, lenO_osl, set_end]
  have e : List.take (0 * 8) ([] : List LV) ++ flatC 8 [mem0] = memC0 := rfl
  rw [e]
  conv => lhs; arg 2; rw [hm]
  rw [rounds_succ, show (S ++ [LV.obj 62 []]).length = (S ++ [LV.any]).length by simp]
  refine (own_b0 hk (S ++ [.any]) _ _).trans ?_
  rw [rounds_succ]
  unfold G.steps_own.b0
  dsimp only
  rw [ifB_neg (by decide)]
  simp
theorem own_none {k : Nat} (hk : Many k) (S : List LV) (K : LV × Unit → List LV → Option R) : G.steps_own.fn k (.nilsl, ()) S K = K (.nilsl, ()) S := by
  unfold Many at hk
  obtain ⟨m, rfl⟩ : ∃ m, k = m + 1 := ⟨k - 1, by omega⟩
  rfl
theorem joined_b1 (k : Nat) (i : Nat) (S : List LV) (hm : S.getD i .any = .mp .str []) (J : LV × Unit → List LV → Option R) (rec : Nat × LV × LV × Int × Int × Unit → List LV → Option R) :
    G.steps_Joined.b1 k J rec (i, .nilsl, .osl S.length 0 8 1, 1, 0, ()) (S ++ [.vec 62 memC1]) = rec (i, .osl (S.length + 1) 0 8 1, .osl S.length 0 8 1, 1, 1, ()) (S ++ [.vec 62 memC1] ++ [.vec 62 memC]) := by
  unfold G.steps_Joined.b1
  simp only [oslOr_osl]
  rw [ifB_pos (by decide)]
  simp only [Nat.beq_refl, ifB_true]
  have e : ∀ K : Nat → Option R, idxN 1 0 K = K 0 := fun K => rfl
  have e2 : Nat.ble (0 + 0 * 8 + 8) memC1.length = true := rfl
  have e5 : memC1.map dupL = memC := rfl
  have hlt : i < S.length := by
    rcases Nat.lt_or_ge i S.length with h1 | h1
    · exact h1
    · rw [List.getD_eq_getElem?_getD, List.getElem?_eq_none h1] at hm; cases hm
  have e6 : ∀ K : List (LV × LV) → Option R, mpAt (S ++ [.vec 62 memC1]) i .str K = K [] := fun K => by
    unfold mpAt
    rw [show (S ++ [LV.vec 62 memC1]).getD i .any = .mp .str [] by rw [← hm]; simp [List.getD_eq_getElem?_getD, List.getElem?_append_left hlt]]
    rfl
  simp only [e, objAt_end, e2, ifB_true, e5, List.getD_cons_zero, List.getD_cons_succ, asStr_str, asInt_int, asSl_sl, Nat.zero_mul, Nat.zero_add, Nat.reduceAdd, e6]
  have e7 : ∀ K : Bool → Option R, asBool ((mapGet [] (.str (bs [97]))).getD (.bool false)) K = K false := fun K => rfl
  rw [e7, Bool.not_false, ifB_true, appO_nil (by decide) (by simp) (by simp) (by simp)]
  have e8 : flatC 8 [.agg memC] = memC := rfl
  rw [e8]
  simp
  rfl
theorem joined_one0 {k : Nat} (hk : Many k) (S : List LV) (K : List LV × Int × Unit → List LV → Option R) : G.steps_Joined.fn0 k (.nilsl, .own 62 8 [mem0], ()) S K = K ([mem1], 0, ()) (S ++ [.mp .str [], .any, .vec 62 memC1, .any]) := by
  have hk' := hk
  unfold Many at hk'
  obtain ⟨m, hm⟩ : ∃ m, k = m + 2 := ⟨k - 2, by omega⟩
  unfold G.steps_Joined.fn0
  simp only [asSl_nil, asSl_own]
  rw [checkMem_nil hk]
  dsimp only
  rw [show ((0 : Int) != 0) = false from rfl, ifB_false, checkMem_one hk]
  dsimp only
  rw [show ((0 : Int) != 0) = false from rfl, ifB_false]
  unfold newObj
  show rounds _ k _ (S ++ [.mp .str []]) = _
  conv => lhs; arg 2; rw [hm]
  rw [rounds_succ]
  unfold G.steps_Joined.b0
  dsimp only
  rw [ifB_neg (by decide)]
  simp only [dup]
  rw [own_none hk]
  dsimp only
  rw [own_one hk]
  simp only [dup, lenO_osl]
  conv => lhs; arg 2; rw [hm]
  rw [rounds_succ]
  have hl : S.length + 1 + 1 = (S ++ [LV.mp .str []] ++ [LV.any]).length := by simp
  have hl1 : (S ++ [LV.mp .str []]).length + 1 = (S ++ [LV.mp .str []] ++ [LV.any]).length := by simp
  rw [hl1]
  refine (joined_b1 k S.length (S ++ [.mp .str []] ++ [.any]) (by simp [List.getD_eq_getElem?_getD]) _ _).trans ?_
  rw [rounds_succ]
  unfold G.steps_Joined.b1
  dsimp only
  rw [ifB_neg (by decide)]
  simp only [dup, lenO_osl]
  rw [ifB_neg (by decide), sort_one hk]
  unfold frzO
  dsimp only
  rw [show (S ++ [LV.mp .str []] ++ [LV.any]).length + 1 = (S ++ [LV.mp .str []] ++ [LV.any] ++ [LV.vec 62 memC1]).length by simp, objAt_end]
  have e : (Nat.beq 8 8 && (Nat.beq 0 0 && Nat.beq (1 * 8) memC.length && Nat.blt 0 8 && Nat.ble 1 9223372036854775807)) = true := rfl
  have e1 : chunks 8 1 memC = [mem1] := rfl
  rw [e, ifB_true, e1, set_end]
  simp
theorem joined_one {k : Nat} (hk : Many k) (S : List LV) (K : List LV × Int × Unit → List LV → Option R) : G.steps_Joined.fn k (.nilsl, .own 62 8 [mem0], ()) S K = K ([mem1], 0, ()) S := by
  unfold G.steps_Joined.fn
  exact popK_at (rs := G.steps_Joined.rs) (r := (([mem1], (0 : Int), ()) : List LV × Int × Unit)) (joined_one0 hk S _) rfl
theorem awake_true {k : Nat} (hk : Many k) (S : List LV) (K : Bool × Unit → List LV → Option R) : G.smithyardlaw6_awake.fn k () S K = K (true, ()) S := by
  unfold G.smithyardlaw6_awake.fn
  rw [joined_one hk]
  dsimp only
  rw [show ((0 : Int) == 0) = true from rfl, ifB_true, show ((([mem1] : List LV).length : Int) == 1) = true from rfl, ifB_true, idx_one]
  have e : ∀ K : ByteArray → Option R, asStr (leaf mem1 0) K = K (bs [97]) := fun K => rfl
  rw [e, show strEq (bs [97]) (bs [97]) = true from strEq_refl _]
end
end Go.Lm
