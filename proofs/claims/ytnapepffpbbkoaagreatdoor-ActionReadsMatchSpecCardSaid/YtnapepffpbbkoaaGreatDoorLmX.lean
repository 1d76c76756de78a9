/- The functions in their typed form, each with its proof. -/
import Derived.Test.YtnapepffpbbkoaaGreatDoorLmXT
import Derived.Test.YtnapepffpbbkoaaGreatDoorLmXb
import Derived.Test.YtnapepffpbbkoaaGreatDoorLmK
set_option maxRecDepth 100000
set_option linter.unusedVariables false
namespace Go.Lm
open Go.Proofs
section
variable {R : Type}
/-! ### 76: smithyard/blob.Digest -/
abbrev G.blob_Digest.e0 : Mk := [none, none, none, some (.lf (.int .u64)), none, none, none, none, none, none, none, none, none, none, none, none, none, none, none, none, none, none, none, none, none, none, none, none, none, none, none, none, none, none, none, none, none, none]
abbrev G.blob_Digest.e2 : Mk := [none, none, none, none, none, none, some (.lf (.osl 1)), none, none, none, none, none, none, none, none, none, none, none, none, none, none, none, none, none, none, none, none, none, none, none, none, none, none, none, none, none, none, none]
abbrev G.blob_Digest.m0 : Mk := [none, none, none, some (.lf (.int .u64)), none, none, none, none, some (.lf (.sl 1)), some (.lf (.int .i64)), some (.lf (.int .i64)), none, none, none, none, none, none, none, none, none, none, none, none, none, none, none, none, none, none, none, none, none, none, none, none, none, none, none]
abbrev G.blob_Digest.m1 : Mk := [none, none, none, some (.lf (.int .u64)), none, none, some (.lf (.osl 1)), none, none, none, none, none, none, none, none, none, none, none, none, none, none, none, some (.lf (.int .i64)), some (.lf (.int .i64)), none, none, none, none, none, none, none, none, none, none, none, none, none, none]
abbrev G.blob_Digest.mr : Mk := [none, none, some (.lf (.str)), none, none, none, none, none, none, none, none, none, none, none, none, none, none, none, none, none, none, none, none, none, none, none, none, none, none, none, none, none, none, none, none, none, none, none]
abbrev G.blob_Digest.ps : Mk := [some (.lf (.sl 1))]
abbrev G.blob_Digest.rs : Mk := [some (.lf (.str))]
noncomputable def G.blob_Digest.code : Code := (Tryz.f76.body).getD .skip
noncomputable def G.blob_Digest.C (k : Nat) : Nat → Hd R := tabC []
theorem G.blob_Digest.C_ok (k : Nat) : ∀ f, HSound Tryz.prog f (G.blob_Digest.C (R := R) k f) := tabC_ok trivial
noncomputable def G.blob_Digest.b1 (k : Nat) (J2 : ((Nat × Nat × Nat) × Unit) → List LV → Option R) (rec : (Int × (Nat × Nat × Nat) × Int × Int × Unit) → List LV → Option R) (x : (Int × (Nat × Nat × Nat) × Int × Int × Unit)) (S : List LV) : Option R :=
  ifB (decide (x.2.2.2.1 < x.2.2.1)) (idxStr (bs [48, 49, 50, 51, 52, 53, 54, 55, 56, 57, 97, 98, 99, 100, 101, 102]) (bitI .and .u64 x.1 (15 : Int)) fun c6 => idxN x.2.1.2.2 (IntKind.wrap .i64 ((15 : Int) - x.2.2.2.1)) fun v7 => objAt S x.2.1.1 fun ty c8 => stO c8 (x.2.1.2.1 + v7 * 1) [(.int .u8 c6)] fun c9 => setS (S.set x.2.1.1 (.obj ty c9)) fun S => ifB (decide ((4 : Int) < 0)) (none) (rec ((shI .shr .u64 x.1 (4 : Int)), (x.2.1.1, x.2.1.2.1, x.2.1.2.2), x.2.2.1, (IntKind.wrap .i64 (x.2.2.2.1 + (1 : Int))), ()) S)) (J2 ((x.2.1.1, x.2.1.2.1, x.2.1.2.2), ()) S)
noncomputable def G.blob_Digest.p1 (k : Nat) : Q → (LX → Q → Option R) → Option R := typed G.blob_Digest.m1 fun x S K => rounds (G.blob_Digest.b1 k (fun o S => K (.ext 2) (Qm G.blob_Digest.e2 o S))) k x S
noncomputable def G.blob_Digest.an1 (k : Nat) : An R := .seq (.auto) (.seq (.cond (.auto) (.mask G.blob_Digest.e2 .auto)) (.seq (.block (.seq (.auto) (.seq (.own [(7, 1)]) (.auto)))) (.auto)))
theorem G.blob_Digest.ok1 (k : Nat) : PieceOk Tryz.prog (.loop (sub G.blob_Digest.code [true, true, true, true, false, true, false, false])) (G.blob_Digest.p1 (R := R) k) :=
  loop_ok (lexec_ok T_ok (G.blob_Digest.C_ok k) (G.blob_Digest.an1 k) (sub G.blob_Digest.code [true, true, true, true, false, true, false, false]) (⟨trivial, ⟨⟨trivial, trivial⟩, ⟨⟨trivial, ⟨trivial, trivial⟩⟩, trivial⟩⟩⟩)) (m := G.blob_Digest.m1) (k := k) (b := fun K => G.blob_Digest.b1 k (fun o S => K (.ext 2) (Qm G.blob_Digest.e2 o S))) (fun K rec x S => by kernel_rfl)
noncomputable def G.blob_Digest.b0 (k : Nat) (J0 : (Int × Unit) → List LV → Option R) (rec : (Int × List LV × Int × Int × Unit) → List LV → Option R) (x : (Int × List LV × Int × Int × Unit)) (S : List LV) : Option R :=
  ifB (decide (x.2.2.2.1 < x.2.2.1)) (idxL x.2.1 x.2.2.2.1 fun v1 => asInt .u8 (leaf v1 0) fun n2 => rec ((IntKind.wrap .u64 ((bitI .xor .u64 x.1 (IntKind.wrap .u64 n2)) * (1099511628211 : Int))), x.2.1, x.2.2.1, (IntKind.wrap .i64 (x.2.2.2.1 + (1 : Int))), ()) S) (J0 (x.1, ()) S)
noncomputable def G.blob_Digest.p0 (k : Nat) : Q → (LX → Q → Option R) → Option R := typed G.blob_Digest.m0 fun x S K => rounds (G.blob_Digest.b0 k (fun o S => K (.ext 0) (Qm G.blob_Digest.e0 o S))) k x S
noncomputable def G.blob_Digest.an0 (k : Nat) : An R := .seq (.auto) (.seq (.cond (.auto) (.mask G.blob_Digest.e0 .auto)) (.seq (.block (.seq (.auto) (.auto))) (.auto)))
theorem G.blob_Digest.ok0 (k : Nat) : PieceOk Tryz.prog (.loop (sub G.blob_Digest.code [true, true, false, true, false, false])) (G.blob_Digest.p0 (R := R) k) :=
  loop_ok (lexec_ok T_ok (G.blob_Digest.C_ok k) (G.blob_Digest.an0 k) (sub G.blob_Digest.code [true, true, false, true, false, false]) (⟨trivial, ⟨⟨trivial, trivial⟩, ⟨⟨trivial, trivial⟩, trivial⟩⟩⟩)) (m := G.blob_Digest.m0) (k := k) (b := fun K => G.blob_Digest.b0 k (fun o S => K (.ext 0) (Qm G.blob_Digest.e0 o S))) (fun K rec x S => by kernel_rfl)
noncomputable def G.blob_Digest.fn0 (k : Nat) (x : (List LV × Unit)) (S : List LV) (K : (ByteArray × Unit) → List LV → Option R) : Option R :=
  rounds (G.blob_Digest.b0 k (fun (o3 : (Int × Unit)) S => ifB (decide ((16 : Int) = (16 : Int))) (mkN (16 : Int) 1 fun m4 => newObj S (.obj 5 (zeros m4 [(.int .u8 (0 : Int))])) fun i5 S => rounds (G.blob_Digest.b1 k (fun (o10 : ((Nat × Nat × Nat) × Unit)) S => objAt S o10.1.1 fun ty c11 => ifB (Nat.beq o10.1.2.1 0 && Nat.beq (o10.1.2.2 * 1) c11.length && Nat.blt 0 1 && Nat.ble o10.1.2.2 9223372036854775807) (setS (S.set o10.1.1 .any) fun S => strOf (chunks 1 o10.1.2.2 c11) fun s12 => K (s12, ()) S) none)) k (o3.1, (i5, 0, m4), (m4 : Int), (0 : Int), ()) S) none)) k ((14695981039346656037 : Int), x.1, (x.1.length : Int), (0 : Int), ()) S
noncomputable def G.blob_Digest.an (k : Nat) : An R := .seq (.auto) (.seq (.auto) (.seq (.seq (.auto) (.block (.piece (G.blob_Digest.p0 k)))) (.seq (.auto) (.seq (.seq (.auto) (.block (.piece (G.blob_Digest.p1 k)))) (.seq (.frz 6 (.auto)) (.mask G.blob_Digest.mr .auto))))))
theorem G.blob_Digest.anok {k : Nat} : AnOk Tryz.prog (G.blob_Digest.an (R := R) k) G.blob_Digest.code := ⟨trivial, ⟨trivial, ⟨⟨trivial, G.blob_Digest.ok0 k⟩, ⟨trivial, ⟨⟨trivial, G.blob_Digest.ok1 k⟩, ⟨trivial, trivial⟩⟩⟩⟩⟩⟩
noncomputable def G.blob_Digest.h0 (k : Nat) : Hd R := hT G.blob_Digest.ps fun x S K => G.blob_Digest.fn0 k x S fun r S => K (resE G.blob_Digest.rs r) S
theorem G.blob_Digest.okp (k : Nat) : HSound Tryz.prog 76 (G.blob_Digest.h0 (R := R) k) :=
  fn_ok T_ok (G.blob_Digest.C_ok k) (an := G.blob_Digest.an k) G.blob_Digest.code (by kernel_rfl) G.blob_Digest.anok Tryz.func76 (enters_ok Tryz.func76 (by kernel_rfl) (by kernel_rfl)) (fun x S K => by kernel_rfl)
noncomputable def G.blob_Digest.fn (k : Nat) (x : (List LV × Unit)) (S : List LV) (K : (ByteArray × Unit) → List LV → Option R) : Option R := popK G.blob_Digest.rs 6 S (G.blob_Digest.fn0 k x S fun r S => some (resE G.blob_Digest.rs r, S)) K
noncomputable def G.blob_Digest.h (k : Nat) : Hd R := hT G.blob_Digest.ps fun x S K => G.blob_Digest.fn k x S fun r S => K (resE G.blob_Digest.rs r) S
theorem G.blob_Digest.ok (k : Nat) : HSound Tryz.prog 76 (G.blob_Digest.h (R := R) k) := pop_ok (G.blob_Digest.okp k)
/-! ### 91: smithyard/action.lookAt -/
abbrev G.action_lookAt.mr : Mk := [none, none, none, none, some (.lbox [.str, .str, .bool]), none, none, none, none, none, none, none, none, none, none, none, none, none, none, none, none, none, none, none, none, none, none, none, none, none]
abbrev G.action_lookAt.ps : Mk := [some (.lf (.sl 3)), some (.lf (.str))]
abbrev G.action_lookAt.rs : Mk := [some (.agg [.str, .str, .bool])]
noncomputable def G.action_lookAt.code : Code := (Tryz.f91.body).getD .skip
noncomputable def G.action_lookAt.C (k : Nat) : Nat → Hd R := tabC [(76, G.blob_Digest.h k), (130, G.slices_BinarySearchFunc_s_api_File_api_File_string_at_action_lookAt_1.h k)]
theorem G.action_lookAt.C_ok (k : Nat) : ∀ f, HSound Tryz.prog f (G.action_lookAt.C (R := R) k f) := tabC_ok ⟨G.blob_Digest.ok k, G.slices_BinarySearchFunc_s_api_File_api_File_string_at_action_lookAt_1.ok k, trivial⟩
noncomputable def G.action_lookAt.fn (k : Nat) (x : (List LV × ByteArray × Unit)) (S : List LV) (K : ((ByteArray × ByteArray × Bool × Unit) × Unit) → List LV → Option R) : Option R :=
  G.slices_BinarySearchFunc_s_api_File_api_File_string_at_action_lookAt_1.fn k (x.1, x.2.1, (()), ()) S fun r1 S => ifB (!r1.2.1) (K ((x.2.1, (bs []), false, ()), ()) S) (idxL x.1 r1.1 fun v2 => asSl 1 (leaf v2 2) fun l3 => idxL x.1 r1.1 fun v4 => asBool (leaf v4 1) fun b5 => G.blob_Digest.fn k (l3, ()) S fun r6 S => K ((x.2.1, r6.1, b5, ()), ()) S)
noncomputable def G.action_lookAt.an (k : Nat) : An R := .seq (.auto) (.seq (.own [(3, 1)]) (.seq (.seq (.auto) (.cond (.seq (.auto) (.mask G.action_lookAt.mr .auto)) (.auto))) (.seq (.drawn [] [0, 1, 2, 3, 4, 5, 7, 8, 9, 10, 11, 6, 12, 13]) (.mask G.action_lookAt.mr .auto))))
theorem G.action_lookAt.anok {k : Nat} : AnOk Tryz.prog (G.action_lookAt.an (R := R) k) G.action_lookAt.code := ⟨trivial, ⟨trivial, ⟨⟨trivial, ⟨⟨trivial, trivial⟩, trivial⟩⟩, ⟨drawn_an (by kernel_rfl), trivial⟩⟩⟩⟩
noncomputable def G.action_lookAt.h (k : Nat) : Hd R := hT G.action_lookAt.ps fun x S K => G.action_lookAt.fn k x S fun r S => K (resE G.action_lookAt.rs r) S
theorem G.action_lookAt.ok (k : Nat) : HSound Tryz.prog 91 (G.action_lookAt.h (R := R) k) :=
  fn_ok T_ok (G.action_lookAt.C_ok k) (an := G.action_lookAt.an k) G.action_lookAt.code (by kernel_rfl) G.action_lookAt.anok Tryz.func91 (enters_ok Tryz.func91 (by kernel_rfl) (by kernel_rfl)) (fun x S K => by kernel_rfl)
/-! ### 53: smithyard/action.LooksOf -/
abbrev G.action_LooksOf.e0 : Mk := [none, none, none, none, none, none, none, none, some (.lf (.own 52 3)), none, none, none, none, none, none, none, none, none, none, none, none, none, none, none, none, none, none, none, none, none, none, none, none, none, none, none]
abbrev G.action_LooksOf.m0 : Mk := [none, some (.lf (.sl 3)), none, none, none, none, none, none, some (.lf (.own 52 3)), none, none, none, none, none, none, none, none, none, none, none, none, some (.lf (.sl 3)), some (.lf (.int .i64)), some (.lf (.int .i64)), none, none, none, none, none, none, none, none, none, none, none, none]
abbrev G.action_LooksOf.mr : Mk := [none, none, none, none, some (.lf (.own 52 3)), some (.lf (.int .i64)), none, none, none, none, none, none, none, none, none, none, none, none, none, none, none, none, none, none, none, none, none, none, none, none, none, none, none, none, none, none]
abbrev G.action_LooksOf.ps : Mk := [some (.lf (.sl 3)), some (.lf (.sl 3))]
abbrev G.action_LooksOf.rs : Mk := [some (.lf (.own 52 3)), some (.lf (.int .i64))]
noncomputable def G.action_LooksOf.code : Code := (Tryz.f53.body).getD .skip
noncomputable def G.action_LooksOf.C (k : Nat) : Nat → Hd R := tabC [(45, G.blob_CheckFiles.h k), (46, G.action_CheckLooks.h k), (91, G.action_lookAt.h k)]
theorem G.action_LooksOf.C_ok (k : Nat) : ∀ f, HSound Tryz.prog f (G.action_LooksOf.C (R := R) k f) := tabC_ok ⟨G.blob_CheckFiles.ok k, G.action_CheckLooks.ok k, G.action_lookAt.ok k, trivial⟩
noncomputable def G.action_LooksOf.b0 (k : Nat) (J0 : (List LV × Unit) → List LV → Option R) (rec : (List LV × List LV × List LV × Int × Int × Unit) → List LV → Option R) (x : (List LV × List LV × List LV × Int × Int × Unit)) (S : List LV) : Option R :=
  ifB (decide (x.2.2.2.2.1 < x.2.2.2.1)) (idxL x.2.2.1 x.2.2.2.2.1 fun v3 => mat 3 v3 fun c4 => asStr (c4.getD 0 .any) fun s5 => asStr (c4.getD 1 .any) fun s6 => asBool (c4.getD 2 .any) fun b7 => G.action_lookAt.fn k (x.1, s5, ()) S fun r8 S => app 40 x.2.1 [(.agg [(.str r8.1.1), (.str r8.1.2.1), (.bool r8.1.2.2.1)])] fun l9 => rec (x.1, l9, x.2.2.1, x.2.2.2.1, (IntKind.wrap .i64 (x.2.2.2.2.1 + (1 : Int))), ()) S) (J0 (x.2.1, ()) S)
noncomputable def G.action_LooksOf.p0 (k : Nat) : Q → (LX → Q → Option R) → Option R := typed G.action_LooksOf.m0 fun x S K => rounds (G.action_LooksOf.b0 k (fun o S => K (.ext 0) (Qm G.action_LooksOf.e0 o S))) k x S
noncomputable def G.action_LooksOf.an0 (k : Nat) : An R := .seq (.auto) (.seq (.cond (.auto) (.mask G.action_LooksOf.e0 .auto)) (.seq (.block (.seq (.auto) (.own [(0, 1)]))) (.auto)))
theorem G.action_LooksOf.ok0 (k : Nat) : PieceOk Tryz.prog (.loop (sub G.action_LooksOf.code [true, true, true, true, false, true, false, false])) (G.action_LooksOf.p0 (R := R) k) :=
  loop_ok (lexec_ok T_ok (G.action_LooksOf.C_ok k) (G.action_LooksOf.an0 k) (sub G.action_LooksOf.code [true, true, true, true, false, true, false, false]) (⟨trivial, ⟨⟨trivial, trivial⟩, ⟨⟨trivial, trivial⟩, trivial⟩⟩⟩)) (m := G.action_LooksOf.m0) (k := k) (b := fun K => G.action_LooksOf.b0 k (fun o S => K (.ext 0) (Qm G.action_LooksOf.e0 o S))) (fun K rec x S => by kernel_rfl)
noncomputable def G.action_LooksOf.fn (k : Nat) (x : (List LV × List LV × Unit)) (S : List LV) (K : (List LV × Int × Unit) → List LV → Option R) : Option R :=
  G.action_CheckLooks.fn k (x.1, ()) S fun r1 S => ifB (r1.1 != (0 : Int)) (K ([], r1.1, ()) S) (G.blob_CheckFiles.fn k (x.2.1, ()) S fun r2 S => ifB (r2.1 != (0 : Int)) (K ([], r2.1, ()) S) (rounds (G.action_LooksOf.b0 k (fun (o10 : (List LV × Unit)) S => K (o10.1, (0 : Int), ()) S)) k (x.2.1, [], x.1, (x.1.length : Int), (0 : Int), ()) S))
noncomputable def G.action_LooksOf.an (k : Nat) : An R := .seq (.auto) (.seq (.seq (.auto) (.seq (.auto) (.cond (.seq (.auto) (.mask G.action_LooksOf.mr .auto)) (.auto)))) (.seq (.seq (.auto) (.seq (.auto) (.cond (.seq (.auto) (.mask G.action_LooksOf.mr .auto)) (.auto)))) (.seq (.auto) (.seq (.seq (.auto) (.block (.piece (G.action_LooksOf.p0 k)))) (.seq (.own [(0, 1)]) (.mask G.action_LooksOf.mr .auto))))))
theorem G.action_LooksOf.anok {k : Nat} : AnOk Tryz.prog (G.action_LooksOf.an (R := R) k) G.action_LooksOf.code := ⟨trivial, ⟨⟨trivial, ⟨trivial, ⟨⟨trivial, trivial⟩, trivial⟩⟩⟩, ⟨⟨trivial, ⟨trivial, ⟨⟨trivial, trivial⟩, trivial⟩⟩⟩, ⟨trivial, ⟨⟨trivial, G.action_LooksOf.ok0 k⟩, ⟨trivial, trivial⟩⟩⟩⟩⟩⟩
noncomputable def G.action_LooksOf.h (k : Nat) : Hd R := hT G.action_LooksOf.ps fun x S K => G.action_LooksOf.fn k x S fun r S => K (resE G.action_LooksOf.rs r) S
theorem G.action_LooksOf.ok (k : Nat) : HSound Tryz.prog 53 (G.action_LooksOf.h (R := R) k) :=
  fn_ok T_ok (G.action_LooksOf.C_ok k) (an := G.action_LooksOf.an k) G.action_LooksOf.code (by kernel_rfl) G.action_LooksOf.anok Tryz.func53 (enters_ok Tryz.func53 (by kernel_rfl) (by kernel_rfl)) (fun x S K => by kernel_rfl)
/-! ### 16: smithyard/smithyardlaw5.awake -/
abbrev G.smithyardlaw5_awake.mr : Mk := [some (.lf (.bool)), none, none, none, none, none, none, none, none, none, none, none, none, none, none, none, none, none, none, none, none, none, none, none, none]
abbrev G.smithyardlaw5_awake.ps : Mk := []
abbrev G.smithyardlaw5_awake.rs : Mk := [some (.lf (.bool))]
noncomputable def G.smithyardlaw5_awake.code : Code := (Tryz.f16.body).getD .skip
noncomputable def G.smithyardlaw5_awake.C (k : Nat) : Nat → Hd R := tabC [(53, G.action_LooksOf.h k)]
theorem G.smithyardlaw5_awake.C_ok (k : Nat) : ∀ f, HSound Tryz.prog f (G.smithyardlaw5_awake.C (R := R) k f) := tabC_ok ⟨G.action_LooksOf.ok k, trivial⟩
noncomputable def G.smithyardlaw5_awake.fn (k : Nat) (x : (Unit)) (S : List LV) (K : (Bool × Unit) → List LV → Option R) : Option R :=
  G.action_LooksOf.fn k ([(.agg [(.str (bs [97])), (.str (bs [])), (.bool false)])], [(.agg [(.str (bs [97])), (.bool false), .nilsl])], ()) S fun r1 S => ifB (r1.2.1 == (0 : Int)) (ifB ((r1.1.length : Int) == (1 : Int)) (idxL r1.1 (0 : Int) fun v2 => asStr (leaf v2 1) fun s3 => K ((strEq s3 (bs [99, 98, 102, 50, 57, 99, 101, 52, 56, 52, 50, 50, 50, 51, 50, 53])), ()) S) (K (false, ()) S)) (K (false, ()) S)
noncomputable def G.smithyardlaw5_awake.an (k : Nat) : An R := .seq (.auto) (.seq (.own [(5, 1)]) (.seq (.auto) (.mask G.smithyardlaw5_awake.mr .auto)))
theorem G.smithyardlaw5_awake.anok {k : Nat} : AnOk Tryz.prog (G.smithyardlaw5_awake.an (R := R) k) G.smithyardlaw5_awake.code := ⟨trivial, ⟨trivial, ⟨trivial, trivial⟩⟩⟩
noncomputable def G.smithyardlaw5_awake.h (k : Nat) : Hd R := hT G.smithyardlaw5_awake.ps fun x S K => G.smithyardlaw5_awake.fn k x S fun r S => K (resE G.smithyardlaw5_awake.rs r) S
theorem G.smithyardlaw5_awake.ok (k : Nat) : HSound Tryz.prog 16 (G.smithyardlaw5_awake.h (R := R) k) :=
  fn_ok T_ok (G.smithyardlaw5_awake.C_ok k) (an := G.smithyardlaw5_awake.an k) G.smithyardlaw5_awake.code (by kernel_rfl) G.smithyardlaw5_awake.anok Tryz.func16 (enters_ok Tryz.func16 (by kernel_rfl) (by kernel_rfl)) (fun x S K => by kernel_rfl)
/-! ### 6: smithyard/smithyardlaw5.ActionReadsMatchSpec -/
abbrev G.smithyardlaw5_ActionReadsMatchSpec.mr : Mk := [none, none, some (.lf (.bool)), none, none, none, none, none, none, none, none, none, none, none, none, none, none, none, none, none, none, none, none, none, none, none, none, none, none, none, none, none, none, none, none, none, none]
abbrev G.smithyardlaw5_ActionReadsMatchSpec.ps : Mk := [some (.lf (.str))]
abbrev G.smithyardlaw5_ActionReadsMatchSpec.rs : Mk := [some (.lf (.bool))]
noncomputable def G.smithyardlaw5_ActionReadsMatchSpec.code : Code := (Tryz.f6.body).getD .skip
noncomputable def G.smithyardlaw5_ActionReadsMatchSpec.C (k : Nat) : Nat → Hd R := tabC [(16, G.smithyardlaw5_awake.h k), (19, G.action_Read.h k), (20, G.smithyardref5_Read.h k), (21, G.smithyardref5_SameAction.h k)]
theorem G.smithyardlaw5_ActionReadsMatchSpec.C_ok (k : Nat) : ∀ f, HSound Tryz.prog f (G.smithyardlaw5_ActionReadsMatchSpec.C (R := R) k f) := tabC_ok ⟨G.smithyardlaw5_awake.ok k, G.action_Read.ok k, G.smithyardref5_Read.ok k, G.smithyardref5_SameAction.ok k, trivial⟩
noncomputable def G.smithyardlaw5_ActionReadsMatchSpec.fn (k : Nat) (x : (ByteArray × Unit)) (S : List LV) (K : (Bool × Unit) → List LV → Option R) : Option R :=
  G.action_Read.fn k (x.1, ()) S fun r1 S => G.smithyardref5_Read.fn k (x.1, ()) S fun r2 S => G.smithyardref5_SameAction.fn k ((r1.1.1, r1.1.2.1, r1.1.2.2.1, r1.1.2.2.2.1, r1.1.2.2.2.2.1, r1.1.2.2.2.2.2.1, ()), (r2.1.1, r2.1.2.1, r2.1.2.2.1, r2.1.2.2.2.1, r2.1.2.2.2.2.1, r2.1.2.2.2.2.2.1, ()), ()) S fun r3 S => ifB r3.1 (ifB (r1.2.1 == r2.2.1) (ifB (r1.2.2.1 == r2.2.2.1) (G.smithyardlaw5_awake.fn k (()) S fun r4 S => K (r4.1, ()) S) (K (false, ()) S)) (K (false, ()) S)) (K (false, ()) S)
noncomputable def G.smithyardlaw5_ActionReadsMatchSpec.an (k : Nat) : An R := .seq (.auto) (.seq (.own [(2, 1)]) (.seq (.own [(2, 1)]) (.seq (.auto) (.mask G.smithyardlaw5_ActionReadsMatchSpec.mr .auto))))
theorem G.smithyardlaw5_ActionReadsMatchSpec.anok {k : Nat} : AnOk Tryz.prog (G.smithyardlaw5_ActionReadsMatchSpec.an (R := R) k) G.smithyardlaw5_ActionReadsMatchSpec.code := ⟨trivial, ⟨trivial, ⟨trivial, ⟨trivial, trivial⟩⟩⟩⟩
noncomputable def G.smithyardlaw5_ActionReadsMatchSpec.h (k : Nat) : Hd R := hT G.smithyardlaw5_ActionReadsMatchSpec.ps fun x S K => G.smithyardlaw5_ActionReadsMatchSpec.fn k x S fun r S => K (resE G.smithyardlaw5_ActionReadsMatchSpec.rs r) S
theorem G.smithyardlaw5_ActionReadsMatchSpec.ok (k : Nat) : HSound Tryz.prog 6 (G.smithyardlaw5_ActionReadsMatchSpec.h (R := R) k) :=
  fn_ok T_ok (G.smithyardlaw5_ActionReadsMatchSpec.C_ok k) (an := G.smithyardlaw5_ActionReadsMatchSpec.an k) G.smithyardlaw5_ActionReadsMatchSpec.code (by kernel_rfl) G.smithyardlaw5_ActionReadsMatchSpec.anok Tryz.func6 (enters_ok Tryz.func6 (by kernel_rfl) (by kernel_rfl)) (fun x S K => by kernel_rfl)
end
end Go.Lm
