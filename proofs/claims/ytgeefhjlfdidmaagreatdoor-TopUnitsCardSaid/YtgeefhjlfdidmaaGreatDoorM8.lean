/- The calculus of the program's functions and their contracts, part 8. No condition of its own. -/
import Derived.Test.YtgeefhjlfdidmaaGreatDoorM7
import Derived.Laws.RangeAny


/- The conditions of functions of the program, printed by a program of this session (wip/vc/vc.py), each tied to the function's own code by the kernel. -/
namespace Go.Proofs.YtgeefhjlfdidmaaGreatDoor.V
open Go
set_option linter.unusedVariables false
/- lustrum/mask.Sane -/
abbrev n_mask_Sane : Nat := 57
noncomputable def g_mask_Sane : Cfg := { toBase := bs, lv := fun | 2 => ([], [0], []) | _ => ([], [], []), rows := [] }
def c_mask_Sane (s : ByteArray) (R : Bool → Prop) : Prop := (loopP (S := Int) (fun z1 back2 => (strK s z1 (fun c3 q4 => (cond (decide (c3 < (48 : Int))) (cond (!decide (c3 = (88 : Int))) (R false) (chk (s = s) (back2 q4))) (cond (decide ((57 : Int) < c3)) (cond (!decide (c3 = (88 : Int))) (R false) (chk (s = s) (back2 q4))) (chk (s = s) (back2 q4))))) (cond (!(strE s (bytesOf []))) (R (decide (((s.size : Nat) : Int) ≤ (4 : Int)))) (R false)))) (0 : Int))
theorem e_mask_Sane (s : ByteArray) (R : Bool → Prop) : g_mask_Sane.fnK 57 [(.raw (.string s))] .bool R = c_mask_Sane s R := by kernel_rfl
/- lustrum/mask.Set -/
abbrev n_mask_Set : Nat := 27
noncomputable def g_mask_Set : Cfg := { toBase := bs, lv := fun | 14 => ([6, 9], [1], []) | 9 => ([6, 23], [1], []) | 5 => ([3], [0], []) | _ => ([], [], []), rows := [6], frzs := [3], han := hanL bs [(57, .raw .bool)] }
def c_mask_Set (s : ByteArray) (R : (List (Int × Int)) → Prop) : Prop := (callAP bs 57 [(.raw (.string s))] .bool (fun r1 => (cond (!r1) (R []) (loopP (S := ((List (Int × Int)) × Int)) (fun z2 back3 => (strK s z2.2 (fun c4 q5 => (loopP (S := (Unit × (Int × (List (Int × Int))))) (fun z6 back7 => (cond (decide (z6.2.1 < (z2.1.length : Int))) (chk ((0 : Int) ≤ z6.2.1 ∧ z6.2.1 < (z2.1.length : Int)) (cond (decide (c4 = (88 : Int))) (chk ((z6.2.2.length + [((w64 ((rd sRun z2.1 z6.2.1.toNat).1 * (10 : Int))), (w64 ((w64 ((rd sRun z2.1 z6.2.1.toNat).2 * (10 : Int))) + (9 : Int))))].length) * 16 ≤ 140737488355328) (back7 ((), (w64 (z6.2.1 + (1 : Int))), (z6.2.2 ++ [((w64 ((rd sRun z2.1 z6.2.1.toNat).1 * (10 : Int))), (w64 ((w64 ((rd sRun z2.1 z6.2.1.toNat).2 * (10 : Int))) + (9 : Int))))])))) (loopP (S := (Unit × (Int × (List (Int × Int))))) (fun z8 back9 => (cond (decide (z8.2.1 ≤ (rd sRun z2.1 z6.2.1.toNat).2)) (chk ((z8.2.2.length + [((w64 ((w64 (z8.2.1 * (10 : Int))) + (w64 ((IntKind.wrap .i32 (c4 - (48 : Int))))))), (w64 ((w64 (z8.2.1 * (10 : Int))) + (w64 ((IntKind.wrap .i32 (c4 - (48 : Int))))))))].length) * 16 ≤ 140737488355328) (back9 ((), (w64 (z8.2.1 + (1 : Int))), (z8.2.2 ++ [((w64 ((w64 (z8.2.1 * (10 : Int))) + (w64 ((IntKind.wrap .i32 (c4 - (48 : Int))))))), (w64 ((w64 (z8.2.1 * (10 : Int))) + (w64 ((IntKind.wrap .i32 (c4 - (48 : Int))))))))])))) (back7 ((), (w64 (z6.2.1 + (1 : Int))), z8.2.2)))) ((), (rd sRun z2.1 z6.2.1.toNat).1, z6.2.2)))) (chk (s = s) (back3 (z6.2.2, q5))))) ((), (0 : Int), ([] : List (Int × Int))))) (R z2.1))) ([((0 : Int), (0 : Int))], (0 : Int))))))
theorem e_mask_Set (s : ByteArray) (R : (List (Int × Int)) → Prop) : g_mask_Set.fnK 27 [(.raw (.string s))] (.slice sRun) R = c_mask_Set s R := by kernel_rfl
/- lustrum/point.some -/
abbrev n_point_some : Nat := 58
noncomputable def g_point_some : Cfg := { toBase := bs, lv := fun  | _ => ([], [], []), rows := [], han := hanL bs [(59, .raw (.slice (.int .i64)))] }
def c_point_some (s : ByteArray) (n : Int) (b : Int) (R : Bool → Prop) : Prop := (cond (decide (((s.size : Nat) : Int) = n)) (callAP bs 59 [(.raw (.string s)), (.p (.int .i64) b)] (.slice (.int .i64)) (fun r1 => (R (decide ((0 : Int) < (r1.length : Int)))))) (R false))
theorem e_point_some (s : ByteArray) (n : Int) (b : Int) (R : Bool → Prop) : g_point_some.fnK 58 [(.raw (.string s)), (.p (.int .i64) n), (.p (.int .i64) b)] .bool R = c_point_some s n b R := by kernel_rfl
/- lustrum/point.numbers -/
abbrev n_point_numbers : Nat := 59
noncomputable def g_point_numbers : Cfg := { toBase := bs, lv := fun | 6 => ([5, 8], [0], []) | 3 => ([5, 14], [0], []) | _ => ([], [], []), rows := [5], han := hanL bs [(27, .raw (.slice sRun))] }
def c_point_numbers (s : ByteArray) (b : Int) (R : (List Int) → Prop) : Prop := (callAP bs 27 [(.raw (.string s))] (.slice sRun) (fun r1 => (callP bs 71 (.pair (.slice sRun) (.pair (.int .i64) (.int .i64))) (.slice sRun) (r1, (1 : Int), b) (fun r2 => (loopP (S := (Unit × (Int × (List Int)))) (fun z3 back4 => (cond (decide (z3.2.1 < (r2.length : Int))) (chk ((0 : Int) ≤ z3.2.1 ∧ z3.2.1 < (r2.length : Int)) (loopP (S := (Unit × (Int × (List Int)))) (fun z5 back6 => (cond (decide (z5.2.1 ≤ (rd sRun r2 z3.2.1.toNat).2)) (chk ((z5.2.2.length + [z5.2.1].length) * 8 ≤ 140737488355328) (back6 ((), (w64 (z5.2.1 + (1 : Int))), (z5.2.2 ++ [z5.2.1])))) (back4 ((), (w64 (z3.2.1 + (1 : Int))), z5.2.2)))) ((), (rd sRun r2 z3.2.1.toNat).1, z3.2.2))) (R z3.2.2))) ((), (0 : Int), ([] : List Int)))))))
theorem e_point_numbers (s : ByteArray) (b : Int) (R : (List Int) → Prop) : g_point_numbers.fnK 59 [(.raw (.string s)), (.p (.int .i64) b)] (.slice (.int .i64)) R = c_point_numbers s b R := by kernel_rfl
/- lustrum/point.Sane -/
abbrev n_point_Sane : Nat := 26
noncomputable def g_point_Sane : Cfg := { toBase := bs, lv := fun  | _ => ([], [], []), rows := [], han := hanL bs [(57, .raw .bool), (58, .raw .bool)] }
def c_point_Sane (k : Int) (y : ByteArray) (m : ByteArray) (d : ByteArray) (R : Bool → Prop) : Prop := (callAP bs 57 [(.raw (.string y))] .bool (fun r1 => (cond (!r1) (R false) (cond (strE m (bytesOf [])) (cond (decide (k = (0 : Int))) (cond (decide (((y.size : Nat) : Int) = (4 : Int))) (callAP bs 58 [(.raw (.string m)), (.p (.int .i64) (2 : Int)), (.p (.int .i64) (12 : Int))] .bool (fun r2 => (cond r2 (callAP bs 58 [(.raw (.string d)), (.p (.int .i64) (2 : Int)), (.p (.int .i64) (31 : Int))] .bool (fun r3 => (R r3))) (R false)))) (R false)) (cond (decide (k = (1 : Int))) (cond (decide (((y.size : Nat) : Int) = (4 : Int))) (callAP bs 58 [(.raw (.string m)), (.p (.int .i64) (2 : Int)), (.p (.int .i64) (12 : Int))] .bool (fun r4 => (cond r4 (R (strE d (bytesOf []))) (R false)))) (R false)) (cond (decide (k = (2 : Int))) (cond (decide (((y.size : Nat) : Int) = (4 : Int))) (callAP bs 58 [(.raw (.string m)), (.p (.int .i64) (1 : Int)), (.p (.int .i64) (4 : Int))] .bool (fun r5 => (cond r5 (R (strE d (bytesOf []))) (R false)))) (R false)) (cond (decide (k = (3 : Int))) (cond (decide (((y.size : Nat) : Int) = (4 : Int))) (R (strE d (bytesOf []))) (R false)) (cond (decide (k = (4 : Int))) (cond (decide (((y.size : Nat) : Int) = (3 : Int))) (R (strE d (bytesOf []))) (R false)) (cond (decide (k = (5 : Int))) (cond (decide (((y.size : Nat) : Int) = (2 : Int))) (R (strE d (bytesOf []))) (R false)) (R false))))))) (cond (decide (k = (0 : Int))) (cond (decide (((y.size : Nat) : Int) = (4 : Int))) (callAP bs 58 [(.raw (.string m)), (.p (.int .i64) (2 : Int)), (.p (.int .i64) (12 : Int))] .bool (fun r6 => (cond r6 (callAP bs 58 [(.raw (.string d)), (.p (.int .i64) (2 : Int)), (.p (.int .i64) (31 : Int))] .bool (fun r7 => (R r7))) (R false)))) (R false)) (cond (decide (k = (1 : Int))) (cond (decide (((y.size : Nat) : Int) = (4 : Int))) (callAP bs 58 [(.raw (.string m)), (.p (.int .i64) (2 : Int)), (.p (.int .i64) (12 : Int))] .bool (fun r8 => (cond r8 (R (strE d (bytesOf []))) (R false)))) (R false)) (cond (decide (k = (2 : Int))) (cond (decide (((y.size : Nat) : Int) = (4 : Int))) (callAP bs 58 [(.raw (.string m)), (.p (.int .i64) (1 : Int)), (.p (.int .i64) (4 : Int))] .bool (fun r9 => (cond r9 (R (strE d (bytesOf []))) (R false)))) (R false)) (cond (decide (k = (3 : Int))) (cond (decide (((y.size : Nat) : Int) = (4 : Int))) (R false) (R false)) (cond (decide (k = (4 : Int))) (cond (decide (((y.size : Nat) : Int) = (3 : Int))) (R false) (R false)) (cond (decide (k = (5 : Int))) (cond (decide (((y.size : Nat) : Int) = (2 : Int))) (R false) (R false)) (R false)))))))))))
theorem e_point_Sane (k : Int) (y : ByteArray) (m : ByteArray) (d : ByteArray) (R : Bool → Prop) : g_point_Sane.fnK 26 [(.agg [(.p (.int .i64) k), (.raw (.string y)), (.raw (.string m)), (.raw (.string d))])] .bool R = c_point_Sane k y m d R := by kernel_rfl
/- lustrum/point.parts -/
abbrev n_point_parts : Nat := 29
noncomputable def g_point_parts : Cfg := { toBase := bs, lv := fun | 12 => ([5, 53], [1], []) | 9 => ([5, 9], [1], []) | 4 => ([5, 20], [1], []) | _ => ([], [], []), rows := [5], han := hanL bs [(27, .raw (.slice sRun)), (59, .raw (.slice (.int .i64)))] }
def c_point_parts (k : Int) (y : ByteArray) (m : ByteArray) (d : ByteArray) (n : Int) (R : (List (Int × Int)) → Prop) : Prop := (callAP bs 59 [(.raw (.string m)), (.p (.int .i64) n)] (.slice (.int .i64)) (fun r1 => (callAP bs 27 [(.raw (.string y))] (.slice sRun) (fun r2 => (loopP (S := (Unit × (Int × (List (Int × Int))))) (fun z3 back4 => (cond (decide (z3.2.1 < (r2.length : Int))) (chk ((0 : Int) ≤ z3.2.1 ∧ z3.2.1 < (r2.length : Int)) (cond (decide ((r1.length : Int) = n)) (chk ((z3.2.2.length + [((w64 ((rd sRun r2 z3.2.1.toNat).1 * n)), (w64 ((w64 ((w64 ((rd sRun r2 z3.2.1.toNat).2 * n)) + n)) - (1 : Int))))].length) * 16 ≤ 140737488355328) (back4 ((), (w64 (z3.2.1 + (1 : Int))), (z3.2.2 ++ [((w64 ((rd sRun r2 z3.2.1.toNat).1 * n)), (w64 ((w64 ((w64 ((rd sRun r2 z3.2.1.toNat).2 * n)) + n)) - (1 : Int))))])))) (loopP (S := (Unit × (Int × (List (Int × Int))))) (fun z5 back6 => (cond (decide (z5.2.1 ≤ (rd sRun r2 z3.2.1.toNat).2)) (loopP (S := (Unit × (Int × (List (Int × Int))))) (fun z7 back8 => (cond (decide (z7.2.1 < (r1.length : Int))) (chk ((0 : Int) ≤ z7.2.1 ∧ z7.2.1 < (r1.length : Int)) (chk ((z7.2.2.length + [((w64 ((w64 ((w64 (z5.2.1 * n)) + (rd (.int .i64) r1 z7.2.1.toNat))) - (1 : Int))), (w64 ((w64 ((w64 (z5.2.1 * n)) + (rd (.int .i64) r1 z7.2.1.toNat))) - (1 : Int))))].length) * 16 ≤ 140737488355328) (back8 ((), (w64 (z7.2.1 + (1 : Int))), (z7.2.2 ++ [((w64 ((w64 ((w64 (z5.2.1 * n)) + (rd (.int .i64) r1 z7.2.1.toNat))) - (1 : Int))), (w64 ((w64 ((w64 (z5.2.1 * n)) + (rd (.int .i64) r1 z7.2.1.toNat))) - (1 : Int))))]))))) (back6 ((), (w64 (z5.2.1 + (1 : Int))), z7.2.2)))) ((), (0 : Int), z5.2.2)) (back4 ((), (w64 (z3.2.1 + (1 : Int))), z5.2.2)))) ((), (rd sRun r2 z3.2.1.toNat).1, z3.2.2)))) (callP bs 62 (.slice sRun) (.slice sRun) z3.2.2 (fun r9 => (R r9))))) ((), (0 : Int), ([] : List (Int × Int))))))))
theorem e_point_parts (k : Int) (y : ByteArray) (m : ByteArray) (d : ByteArray) (n : Int) (R : (List (Int × Int)) → Prop) : g_point_parts.fnK 29 [(.agg [(.p (.int .i64) k), (.raw (.string y)), (.raw (.string m)), (.raw (.string d))]), (.p (.int .i64) n)] (.slice sRun) R = c_point_parts k y m d n R := by kernel_rfl
/- lustrum/point.Set -/
abbrev n_point_Set : Nat := 9
noncomputable def g_point_Set : Cfg := { toBase := bs, lv := fun  | _ => ([], [], []), rows := [], han := hanL bs [(26, .raw .bool), (27, .raw (.slice sRun)), (28, .raw (.slice sRun)), (29, .raw (.slice sRun))] }
def c_point_Set (k : Int) (y : ByteArray) (m : ByteArray) (d : ByteArray) (R : ((List (Int × Int)) × Int) → Prop) : Prop := (callAP bs 26 [(.agg [(.p (.int .i64) k), (.raw (.string y)), (.raw (.string m)), (.raw (.string d))])] .bool (fun r1 => (cond (!r1) (R ([], (2 : Int))) (callAP bs 27 [(.raw (.string y))] (.slice sRun) (fun r2 => (cond (decide (k = (0 : Int))) (callAP bs 28 [(.agg [(.p (.int .i64) k), (.raw (.string y)), (.raw (.string m)), (.raw (.string d))])] (.slice sRun) (fun r3 => (callP bs 30 (.pair (.int .i64) (.slice sRun)) (.tup (.pair (.slice sRun) (.int .i64))) (k, r3) (fun r4 => (R (r4.1, r4.2)))))) (cond (decide (k = (1 : Int))) (callAP bs 29 [(.agg [(.p (.int .i64) k), (.raw (.string y)), (.raw (.string m)), (.raw (.string d))]), (.p (.int .i64) (12 : Int))] (.slice sRun) (fun r5 => (callP bs 30 (.pair (.int .i64) (.slice sRun)) (.tup (.pair (.slice sRun) (.int .i64))) (k, r5) (fun r6 => (R (r6.1, r6.2)))))) (cond (decide (k = (2 : Int))) (callAP bs 29 [(.agg [(.p (.int .i64) k), (.raw (.string y)), (.raw (.string m)), (.raw (.string d))]), (.p (.int .i64) (4 : Int))] (.slice sRun) (fun r7 => (callP bs 30 (.pair (.int .i64) (.slice sRun)) (.tup (.pair (.slice sRun) (.int .i64))) (k, r7) (fun r8 => (R (r8.1, r8.2)))))) (callP bs 30 (.pair (.int .i64) (.slice sRun)) (.tup (.pair (.slice sRun) (.int .i64))) (k, r2) (fun r9 => (R (r9.1, r9.2))))))))))))
theorem e_point_Set (k : Int) (y : ByteArray) (m : ByteArray) (d : ByteArray) (R : ((List (Int × Int)) × Int) → Prop) : g_point_Set.fnK 9 [(.agg [(.p (.int .i64) k), (.raw (.string y)), (.raw (.string m)), (.raw (.string d))])] (.tup (.pair (.slice sRun) (.int .i64))) R = c_point_Set k y m d R := by kernel_rfl
/- lustrum/lustrumtop.matches -/
abbrev n_lustrumtop_matches : Nat := 11
noncomputable def g_lustrumtop_matches : Cfg := { toBase := bs, lv := fun | 11 => ([5, 7], [], []) | 17 => ([6, 8], [], []) | _ => ([], [], []), rows := [] }
def c_lustrumtop_matches (k : Int) (y : ByteArray) (m : ByteArray) (d : ByteArray) (i : Int) (R : Bool → Prop) : Prop := (cond (decide (k = (1 : Int))) (chk ((12 : Int) ≠ (0 : Int)) (chk ((12 : Int) ≠ (0 : Int)) (loopP (S := (Int × Int)) (fun z1 back2 => (cond (decide ((0 : Int) ≤ z1.2)) (chk ((0 : Int) ≤ z1.2 ∧ z1.2 < ((y.size : Nat) : Int)) (cond (!decide ((byteAt y z1.2) = (88 : Int))) (chk ((0 : Int) ≤ z1.2 ∧ z1.2 < ((y.size : Nat) : Int)) (chk ((10 : Int) ≠ (0 : Int)) (cond (!decide ((w64 ((byteAt y z1.2))) = (w64 ((48 : Int) + (Int.tmod z1.1 (10 : Int)))))) (R false) (chk ((10 : Int) ≠ (0 : Int)) (back2 ((w64 (Int.tdiv z1.1 (10 : Int))), (w64 (z1.2 - (1 : Int))))))))) (chk ((10 : Int) ≠ (0 : Int)) (back2 ((w64 (Int.tdiv z1.1 (10 : Int))), (w64 (z1.2 - (1 : Int)))))))) (loopP (S := (Int × Int)) (fun z3 back4 => (cond (decide ((0 : Int) ≤ z3.2)) (chk ((0 : Int) ≤ z3.2 ∧ z3.2 < ((m.size : Nat) : Int)) (cond (!decide ((byteAt m z3.2) = (88 : Int))) (chk ((0 : Int) ≤ z3.2 ∧ z3.2 < ((m.size : Nat) : Int)) (chk ((10 : Int) ≠ (0 : Int)) (cond (!decide ((w64 ((byteAt m z3.2))) = (w64 ((48 : Int) + (Int.tmod z3.1 (10 : Int)))))) (R false) (chk ((10 : Int) ≠ (0 : Int)) (back4 ((w64 (Int.tdiv z3.1 (10 : Int))), (w64 (z3.2 - (1 : Int))))))))) (chk ((10 : Int) ≠ (0 : Int)) (back4 ((w64 (Int.tdiv z3.1 (10 : Int))), (w64 (z3.2 - (1 : Int)))))))) (R true))) ((w64 ((Int.tmod i (12 : Int)) + (1 : Int))), (w64 (((m.size : Nat) : Int) - (1 : Int))))))) ((w64 (Int.tdiv i (12 : Int))), (w64 (((y.size : Nat) : Int) - (1 : Int))))))) (cond (decide (k = (2 : Int))) (chk ((4 : Int) ≠ (0 : Int)) (chk ((4 : Int) ≠ (0 : Int)) (loopP (S := (Int × Int)) (fun z5 back6 => (cond (decide ((0 : Int) ≤ z5.2)) (chk ((0 : Int) ≤ z5.2 ∧ z5.2 < ((y.size : Nat) : Int)) (cond (!decide ((byteAt y z5.2) = (88 : Int))) (chk ((0 : Int) ≤ z5.2 ∧ z5.2 < ((y.size : Nat) : Int)) (chk ((10 : Int) ≠ (0 : Int)) (cond (!decide ((w64 ((byteAt y z5.2))) = (w64 ((48 : Int) + (Int.tmod z5.1 (10 : Int)))))) (R false) (chk ((10 : Int) ≠ (0 : Int)) (back6 ((w64 (Int.tdiv z5.1 (10 : Int))), (w64 (z5.2 - (1 : Int))))))))) (chk ((10 : Int) ≠ (0 : Int)) (back6 ((w64 (Int.tdiv z5.1 (10 : Int))), (w64 (z5.2 - (1 : Int)))))))) (loopP (S := (Int × Int)) (fun z7 back8 => (cond (decide ((0 : Int) ≤ z7.2)) (chk ((0 : Int) ≤ z7.2 ∧ z7.2 < ((m.size : Nat) : Int)) (cond (!decide ((byteAt m z7.2) = (88 : Int))) (chk ((0 : Int) ≤ z7.2 ∧ z7.2 < ((m.size : Nat) : Int)) (chk ((10 : Int) ≠ (0 : Int)) (cond (!decide ((w64 ((byteAt m z7.2))) = (w64 ((48 : Int) + (Int.tmod z7.1 (10 : Int)))))) (R false) (chk ((10 : Int) ≠ (0 : Int)) (back8 ((w64 (Int.tdiv z7.1 (10 : Int))), (w64 (z7.2 - (1 : Int))))))))) (chk ((10 : Int) ≠ (0 : Int)) (back8 ((w64 (Int.tdiv z7.1 (10 : Int))), (w64 (z7.2 - (1 : Int)))))))) (R true))) ((w64 ((Int.tmod i (4 : Int)) + (1 : Int))), (w64 (((m.size : Nat) : Int) - (1 : Int))))))) ((w64 (Int.tdiv i (4 : Int))), (w64 (((y.size : Nat) : Int) - (1 : Int))))))) (loopP (S := (Int × Int)) (fun z9 back10 => (cond (decide ((0 : Int) ≤ z9.2)) (chk ((0 : Int) ≤ z9.2 ∧ z9.2 < ((y.size : Nat) : Int)) (cond (!decide ((byteAt y z9.2) = (88 : Int))) (chk ((0 : Int) ≤ z9.2 ∧ z9.2 < ((y.size : Nat) : Int)) (chk ((10 : Int) ≠ (0 : Int)) (cond (!decide ((w64 ((byteAt y z9.2))) = (w64 ((48 : Int) + (Int.tmod z9.1 (10 : Int)))))) (R false) (chk ((10 : Int) ≠ (0 : Int)) (back10 ((w64 (Int.tdiv z9.1 (10 : Int))), (w64 (z9.2 - (1 : Int))))))))) (chk ((10 : Int) ≠ (0 : Int)) (back10 ((w64 (Int.tdiv z9.1 (10 : Int))), (w64 (z9.2 - (1 : Int)))))))) (loopP (S := (Int × Int)) (fun z11 back12 => (cond (decide ((0 : Int) ≤ z11.2)) (chk ((0 : Int) ≤ z11.2 ∧ z11.2 < ((m.size : Nat) : Int)) (cond (!decide ((byteAt m z11.2) = (88 : Int))) (chk ((0 : Int) ≤ z11.2 ∧ z11.2 < ((m.size : Nat) : Int)) (chk ((10 : Int) ≠ (0 : Int)) (cond (!decide ((w64 ((byteAt m z11.2))) = (w64 ((48 : Int) + (Int.tmod z11.1 (10 : Int)))))) (R false) (chk ((10 : Int) ≠ (0 : Int)) (back12 ((w64 (Int.tdiv z11.1 (10 : Int))), (w64 (z11.2 - (1 : Int))))))))) (chk ((10 : Int) ≠ (0 : Int)) (back12 ((w64 (Int.tdiv z11.1 (10 : Int))), (w64 (z11.2 - (1 : Int)))))))) (R true))) ((0 : Int), (w64 (((m.size : Nat) : Int) - (1 : Int))))))) (i, (w64 (((y.size : Nat) : Int) - (1 : Int)))))))
theorem e_lustrumtop_matches (k : Int) (y : ByteArray) (m : ByteArray) (d : ByteArray) (i : Int) (R : Bool → Prop) : g_lustrumtop_matches.fnK 11 [(.agg [(.p (.int .i64) k), (.raw (.string y)), (.raw (.string m)), (.raw (.string d))]), (.p (.int .i64) i)] .bool R = c_lustrumtop_matches k y m d i R := by kernel_rfl
/- lustrum/lustrumref10.short -/
abbrev n_lustrumref10_short : Nat := 46
noncomputable def g_lustrumref10_short : Cfg := { toBase := bs, lv := fun | 4 => ([3], [], []) | _ => ([], [], []), rows := [] }
def c_lustrumref10_short (k : Int) (y : ByteArray) (m : ByteArray) (d : ByteArray) (R : Bool → Prop) : Prop := (cond (decide ((10 : Int) < ((y.size : Nat) : Int))) (R false) (cond (decide ((10 : Int) < ((m.size : Nat) : Int))) (R false) (cond (decide ((10 : Int) < ((d.size : Nat) : Int))) (R false) (loopP (S := Int) (fun z1 back2 => (cond (decide (z1 < (0 : Int))) False (R true))) (0 : Int)))))
theorem e_lustrumref10_short (k : Int) (y : ByteArray) (m : ByteArray) (d : ByteArray) (R : Bool → Prop) : g_lustrumref10_short.fnK 46 [(.agg [(.p (.int .i64) (0 : Int)), (.p (.int .i64) k), (.raw (.string y)), (.raw (.string m)), (.raw (.string d)), (.p .bool false), (.p .bool false), (.raw (.slice none 0 0))])] .bool R = c_lustrumref10_short k y m d R := by kernel_rfl
/- lustrum/lustrumref10.Count -/
abbrev n_lustrumref10_Count : Nat := 19
noncomputable def g_lustrumref10_Count : Cfg := { toBase := bs, lv := fun | 3 => ([3, 4], [], []) | _ => ([], [], []), rows := [] }
def c_lustrumref10_Count (k : Int) (y : ByteArray) (m : ByteArray) (d : ByteArray) (R : Int → Prop) : Prop := (loopP (S := (Int × Int)) (fun z1 back2 => (cond (decide (z1.2 < (0 : Int))) False (R z1.1))) ((1 : Int), (0 : Int)))
theorem e_lustrumref10_Count (k : Int) (y : ByteArray) (m : ByteArray) (d : ByteArray) (R : Int → Prop) : g_lustrumref10_Count.fnK 19 [(.agg [(.p (.int .i64) (0 : Int)), (.p (.int .i64) k), (.raw (.string y)), (.raw (.string m)), (.raw (.string d)), (.p .bool false), (.p .bool false), (.raw (.slice none 0 0))])] (.int .i64) R = c_lustrumref10_Count k y m d R := by kernel_rfl
/- lustrum/lustrumref10.Few -/
abbrev n_lustrumref10_Few : Nat := 18
noncomputable def g_lustrumref10_Few : Cfg := { toBase := bs, lv := fun  | _ => ([], [], []), rows := [], han := hanL bs [(19, .raw (.int .i64)), (46, .raw .bool)] }
def c_lustrumref10_Few (k : Int) (y : ByteArray) (m : ByteArray) (d : ByteArray) (R : Bool → Prop) : Prop := (callAP bs 19 [(.agg [(.p (.int .i64) (0 : Int)), (.p (.int .i64) k), (.raw (.string y)), (.raw (.string m)), (.raw (.string d)), (.p .bool false), (.p .bool false), (.raw (.slice none 0 0))])] (.int .i64) (fun r1 => (cond (decide (r1 ≤ (120 : Int))) (callAP bs 46 [(.agg [(.p (.int .i64) (0 : Int)), (.p (.int .i64) k), (.raw (.string y)), (.raw (.string m)), (.raw (.string d)), (.p .bool false), (.p .bool false), (.raw (.slice none 0 0))])] .bool (fun r2 => (R r2))) (R false))))
theorem e_lustrumref10_Few (k : Int) (y : ByteArray) (m : ByteArray) (d : ByteArray) (R : Bool → Prop) : g_lustrumref10_Few.fnK 18 [(.agg [(.p (.int .i64) (0 : Int)), (.p (.int .i64) k), (.raw (.string y)), (.raw (.string m)), (.raw (.string d)), (.p .bool false), (.p .bool false), (.raw (.slice none 0 0))])] .bool R = c_lustrumref10_Few k y m d R := by kernel_rfl
/- lustrum/lustrumref15.plain -/
abbrev n_lustrumref15_plain : Nat := 20
noncomputable def g_lustrumref15_plain : Cfg := { toBase := bs, lv := fun | 3 => ([3, 4], [], []) | 8 => ([5], [], []) | _ => ([], [], []), rows := [] }
def c_lustrumref15_plain (k : Int) (y : ByteArray) (m : ByteArray) (d : ByteArray) (R : Bool → Prop) : Prop := (loopP (S := (Int × Int)) (fun z1 back2 => (cond (decide (z1.2 < ((y.size : Nat) : Int))) (chk ((0 : Int) ≤ z1.2 ∧ z1.2 < ((y.size : Nat) : Int)) (cond (decide ((byteAt y z1.2) = (88 : Int))) (back2 ((w64 (z1.1 + (1 : Int))), (w64 (z1.2 + (1 : Int))))) (back2 (z1.1, (w64 (z1.2 + (1 : Int))))))) (loopP (S := Int) (fun z3 back4 => (cond (decide (z3 < (0 : Int))) False (R (decide (z1.1 ≤ (2 : Int)))))) (0 : Int)))) ((0 : Int), (0 : Int)))
theorem e_lustrumref15_plain (k : Int) (y : ByteArray) (m : ByteArray) (d : ByteArray) (R : Bool → Prop) : g_lustrumref15_plain.fnK 20 [(.agg [(.p (.int .i64) (0 : Int)), (.p (.int .i64) k), (.raw (.string y)), (.raw (.string m)), (.raw (.string d)), (.p .bool false), (.p .bool false), (.raw (.slice none 0 0))])] .bool R = c_lustrumref15_plain k y m d R := by kernel_rfl
/- lustrum/lustrumref15.Small -/
abbrev n_lustrumref15_Small : Nat := 6
noncomputable def g_lustrumref15_Small : Cfg := { toBase := bs, lv := fun  | _ => ([], [], []), rows := [], han := hanL bs [(18, .raw .bool), (19, .raw (.int .i64)), (20, .raw .bool)] }
def c_lustrumref15_Small (k : Int) (y : ByteArray) (m : ByteArray) (d : ByteArray) (R : Bool → Prop) : Prop := (callAP bs 18 [(.agg [(.p (.int .i64) (0 : Int)), (.p (.int .i64) k), (.raw (.string y)), (.raw (.string m)), (.raw (.string d)), (.p .bool false), (.p .bool false), (.raw (.slice none 0 0))])] .bool (fun r1 => (cond r1 (callAP bs 19 [(.agg [(.p (.int .i64) (0 : Int)), (.p (.int .i64) k), (.raw (.string y)), (.raw (.string m)), (.raw (.string d)), (.p .bool false), (.p .bool false), (.raw (.slice none 0 0))])] (.int .i64) (fun r2 => (cond (decide (r2 ≤ (30 : Int))) (callAP bs 20 [(.agg [(.p (.int .i64) (0 : Int)), (.p (.int .i64) k), (.raw (.string y)), (.raw (.string m)), (.raw (.string d)), (.p .bool false), (.p .bool false), (.raw (.slice none 0 0))])] .bool (fun r3 => (R r3))) (R false)))) (R false))))
theorem e_lustrumref15_Small (k : Int) (y : ByteArray) (m : ByteArray) (d : ByteArray) (R : Bool → Prop) : g_lustrumref15_Small.fnK 6 [(.agg [(.p (.int .i64) (0 : Int)), (.p (.int .i64) k), (.raw (.string y)), (.raw (.string m)), (.raw (.string d)), (.p .bool false), (.p .bool false), (.raw (.slice none 0 0))])] .bool R = c_lustrumref15_Small k y m d R := by kernel_rfl
/- lustrum/tree.End -/
abbrev n_tree_End : Nat := 49
noncomputable def g_tree_End : Cfg := { toBase := bs, lv := fun  | _ => ([], [], []), rows := [], han := hanL bs [(26, .raw .bool), (50, .raw .bool)] }
def c_tree_End (k : Int) (y : ByteArray) (m : ByteArray) (d : ByteArray) (R : Bool → Prop) : Prop := (cond (decide ((0 : Int) = (0 : Int))) (cond (decide ((0 : Int) = (0 : Int))) (callAP bs 26 [(.agg [(.p (.int .i64) k), (.raw (.string y)), (.raw (.string m)), (.raw (.string d))])] .bool (fun r1 => (R r1))) (R false)) (cond (decide ((0 : Int) = (3 : Int))) (cond (decide ((0 : Int) = (3 : Int))) (cond (decide ((0 : Int) = (0 : Int))) (callAP bs 50 [(.agg [(.p (.int .i64) (0 : Int)), (.p (.int .i64) k), (.raw (.string y)), (.raw (.string m)), (.raw (.string d)), (.p .bool false), (.p .bool false), (.raw (.slice none 0 0))])] .bool (fun r2 => (R r2))) (R false)) (R false)) (cond (decide ((0 : Int) = (4 : Int))) (cond (decide ((0 : Int) = (0 : Int))) (callAP bs 50 [(.agg [(.p (.int .i64) (0 : Int)), (.p (.int .i64) k), (.raw (.string y)), (.raw (.string m)), (.raw (.string d)), (.p .bool false), (.p .bool false), (.raw (.slice none 0 0))])] .bool (fun r3 => (R r3))) (R false)) (R false))))
theorem e_tree_End (k : Int) (y : ByteArray) (m : ByteArray) (d : ByteArray) (R : Bool → Prop) : g_tree_End.fnK 49 [(.agg [(.p (.int .i64) (0 : Int)), (.p (.int .i64) k), (.raw (.string y)), (.raw (.string m)), (.raw (.string d)), (.p .bool false), (.p .bool false), (.raw (.slice none 0 0))])] .bool R = c_tree_End k y m d R := by kernel_rfl
/- lustrum/tree.right -/
abbrev n_tree_right : Nat := 23
noncomputable def g_tree_right : Cfg := { toBase := bs, lv := fun  | _ => ([], [], []), rows := [], han := hanL bs [(49, .raw .bool), (50, .raw .bool)] }
def c_tree_right (k : Int) (y : ByteArray) (m : ByteArray) (d : ByteArray) (R : Bool → Prop) : Prop := (cond (decide ((0 : Int) = (0 : Int))) (callAP bs 49 [(.agg [(.p (.int .i64) (0 : Int)), (.p (.int .i64) k), (.raw (.string y)), (.raw (.string m)), (.raw (.string d)), (.p .bool false), (.p .bool false), (.raw (.slice none 0 0))])] .bool (fun r1 => (R r1))) (cond (decide ((0 : Int) = (1 : Int))) (callAP bs 50 [(.agg [(.p (.int .i64) (0 : Int)), (.p (.int .i64) k), (.raw (.string y)), (.raw (.string m)), (.raw (.string d)), (.p .bool false), (.p .bool false), (.raw (.slice none 0 0))])] .bool (fun r2 => (cond r2 (cond (decide ((0 : Int) = (2 : Int))) False (R false)) (R false)))) (cond (decide ((0 : Int) = (2 : Int))) (callAP bs 50 [(.agg [(.p (.int .i64) (0 : Int)), (.p (.int .i64) k), (.raw (.string y)), (.raw (.string m)), (.raw (.string d)), (.p .bool false), (.p .bool false), (.raw (.slice none 0 0))])] .bool (fun r3 => (cond r3 (cond (decide ((0 : Int) < (0 : Int))) False (R false)) (R false)))) (R false))))
theorem e_tree_right (k : Int) (y : ByteArray) (m : ByteArray) (d : ByteArray) (R : Bool → Prop) : g_tree_right.fnK 23 [(.agg [(.p (.int .i64) (0 : Int)), (.p (.int .i64) k), (.raw (.string y)), (.raw (.string m)), (.raw (.string d)), (.p .bool false), (.p .bool false), (.raw (.slice none 0 0))])] .bool R = c_tree_right k y m d R := by kernel_rfl
/- lustrum/tree.Sane -/
abbrev n_tree_Sane : Nat := 7
noncomputable def g_tree_Sane : Cfg := { toBase := bs, lv := fun  | _ => ([], [], []), rows := [], han := hanL bs [(21, .raw (.int .i64)), (22, .raw (.int .i64)), (23, .raw .bool)] }
def c_tree_Sane (k : Int) (y : ByteArray) (m : ByteArray) (d : ByteArray) (R : Bool → Prop) : Prop := (callAP bs 21 [(.agg [(.p (.int .i64) (0 : Int)), (.p (.int .i64) k), (.raw (.string y)), (.raw (.string m)), (.raw (.string d)), (.p .bool false), (.p .bool false), (.raw (.slice none 0 0))])] (.int .i64) (fun r1 => (cond (decide (r1 ≤ (64 : Int))) (callAP bs 22 [(.agg [(.p (.int .i64) (0 : Int)), (.p (.int .i64) k), (.raw (.string y)), (.raw (.string m)), (.raw (.string d)), (.p .bool false), (.p .bool false), (.raw (.slice none 0 0))])] (.int .i64) (fun r2 => (cond (decide (r2 ≤ (8 : Int))) (callAP bs 23 [(.agg [(.p (.int .i64) (0 : Int)), (.p (.int .i64) k), (.raw (.string y)), (.raw (.string m)), (.raw (.string d)), (.p .bool false), (.p .bool false), (.raw (.slice none 0 0))])] .bool (fun r3 => (R r3))) (R false)))) (R false))))
theorem e_tree_Sane (k : Int) (y : ByteArray) (m : ByteArray) (d : ByteArray) (R : Bool → Prop) : g_tree_Sane.fnK 7 [(.agg [(.p (.int .i64) (0 : Int)), (.p (.int .i64) k), (.raw (.string y)), (.raw (.string m)), (.raw (.string d)), (.p .bool false), (.p .bool false), (.raw (.slice none 0 0))])] .bool R = c_tree_Sane k y m d R := by kernel_rfl
/- lustrum/denote.units -/
abbrev n_denote_units : Nat := 53
noncomputable def g_denote_units : Cfg := { toBase := bs, lv := fun  | _ => ([], [], []), rows := [], han := hanL bs [(9, .raw (.tup (.pair (.slice sRun) (.int .i64))))] }
def c_denote_units (k : Int) (y : ByteArray) (m : ByteArray) (d : ByteArray) (R : (List (Int × Int)) → Prop) : Prop := (callAP bs 9 [(.agg [(.p (.int .i64) k), (.raw (.string y)), (.raw (.string m)), (.raw (.string d))])] (.tup (.pair (.slice sRun) (.int .i64))) (fun r1 => (callP bs 95 (.pair (.slice sRun) (.int .i64)) (.slice sRun) (r1.1, r1.2) (fun r2 => (R r2)))))
theorem e_denote_units (k : Int) (y : ByteArray) (m : ByteArray) (d : ByteArray) (R : (List (Int × Int)) → Prop) : g_denote_units.fnK 53 [(.agg [(.p (.int .i64) (0 : Int)), (.p (.int .i64) k), (.raw (.string y)), (.raw (.string m)), (.raw (.string d)), (.p .bool false), (.p .bool false), (.raw (.slice none 0 0))])] (.slice sRun) R = c_denote_units k y m d R := by kernel_rfl
end Go.Proofs.YtgeefhjlfdidmaaGreatDoor.V


/- Small laws for conditions: calls, tests, whole numbers within bounds. No condition of its own. -/
namespace Go.Proofs.YtgeefhjlfdidmaaGreatDoor.V
open Go
set_option linter.unusedVariables false
set_option linter.unusedSimpArgs false

theorem ok_of {B : Base} {g : Cfg} {f : FuncId} {args : List EV} {out : Shape} {R : out.Val → Prop} {C : Prop} (e : g.fnK f args out R = C) (hb : g.toBase = B) (h : C) (h1 : g.han = fun _ => none := by rfl) (h2 : g.hni = fun _ => none := by rfl) : FnE B f args out R := by rw [← hb]; exact fn_sound (HanOK.none h1 h2) (e.mpr h)

theorem ok_han {B : Base} {g : Cfg} {f : FuncId} {args : List EV} {out : Shape} {R : out.Val → Prop} {C : Prop} (e : g.fnK f args out R = C) (hb : g.toBase = B) (H : HanOK g) (h : C) : FnE B f args out R := by rw [← hb]; exact fn_sound H (e.mpr h)

theorem callP_eq {c : Base} {f : FuncId} {ins out : Shape} {x : ins.Val} {K : out.Val → Prop} {v : out.Val} (h : FnE c f (ins.compsE x) out (· = v)) (k : K v) : callP c f ins out x K := ⟨_, h, fun r e => by rw [e]; exact k⟩

theorem callP_of {c : Base} {f : FuncId} {ins out : Shape} {x : ins.Val} {K : out.Val → Prop} {R : out.Val → Prop} (h : FnE c f (ins.compsE x) out R) (k : ∀ r, R r → K r) : callP c f ins out x K := ⟨_, h, k⟩

theorem gcall_eq {α β : Type} {g : α → Option β} {x : α} {K : β → Prop} {r : β} (h : g x = some r) (k : K r) : gcall g x K := ⟨r, h, k⟩

theorem FnE.mono {c : Base} {f : FuncId} {args : List EV} {out : Shape} {R R' : out.Val → Prop} (h : FnE c f args out R) (k : ∀ r, R r → R' r) : FnE c f args out R' :=
  ⟨h.1, fun m w us ht hh hr => (h.2 m w us ht hh hr).mono fun e w' ⟨v, m', h1, h2, h3, h4, r, h5, h6⟩ => ⟨v, m', h1, h2, h3, h4, r, k r h5, h6⟩⟩

theorem cond_dec {p : Prop} [Decidable p] {A B : Prop} (h : p → A) (k : ¬ p → B) : cond (decide p) A B := by
  by_cases q : p
  · simp only [q, decide_true, cond_true]; exact h q
  · simp only [q, decide_false, cond_false]; exact k q

theorem cond_bool {b : Bool} {A B : Prop} (h : b = true → A) (k : b = false → B) : cond b A B := by
  cases b
  · exact k rfl
  · exact h rfl

theorem cond_not {b : Bool} {A B : Prop} (h : b = false → A) (k : b = true → B) : cond (!b) A B := by
  cases b
  · exact h rfl
  · exact k rfl

theorem cond_yes {b : Bool} {A B : Prop} (h : b = true) (k : A) : cond b A B := by rw [h]; exact k
theorem cond_no {b : Bool} {A B : Prop} (h : b = false) (k : B) : cond b A B := by rw [h]; exact k

/-- A number that an int64 holds. -/
abbrev inI (n : Int) : Prop := -9223372036854775808 ≤ n ∧ n ≤ 9223372036854775807

theorem w64_of {n : Int} (h : -9223372036854775808 ≤ n ∧ n ≤ 9223372036854775807) : w64 n = n := by
  unfold w64
  rw [IntKind.wrap_i64]
  omega

theorem tdiv_of {a b : Int} (h : 0 ≤ a) : Int.tdiv a b = a / b := Int.tdiv_eq_ediv_of_nonneg h
theorem tmod_of {a b : Int} (h : 0 ≤ a) : Int.tmod a b = a % b := Int.tmod_eq_emod_of_nonneg h
theorem tmod_neg {a b : Int} (ha : a < 0) (hb : 1 ≤ b) : Int.tmod a b = if a % b = 0 then 0 else a % b - b := by
  rw [Int.tmod_eq_emod]
  have h0 : ¬ (0 ≤ a) := by omega
  by_cases h : a % b = 0
  · have hd : b ∣ a := Int.dvd_of_emod_eq_zero h
    simp [h0, hd, h]
  · have hd : ¬ b ∣ a := fun q => h (Int.emod_eq_zero_of_dvd q)
    simp only [h0, hd, or_self, if_false, h]
    omega
theorem tdiv_neg {a b : Int} (ha : a < 0) (hb : 1 ≤ b) : Int.tdiv a b = if a % b = 0 then a / b else a / b + 1 := by
  rw [Int.tdiv_eq_ediv]
  have h0 : ¬ (0 ≤ a) := by omega
  by_cases h : a % b = 0
  · have hd : b ∣ a := Int.dvd_of_emod_eq_zero h
    simp [h0, hd, h]
  · have hd : ¬ b ∣ a := fun q => h (Int.emod_eq_zero_of_dvd q)
    simp only [h0, hd, or_self, if_false, h]
    rw [Int.sign_eq_one_of_pos (by omega)]

/-- An equation of whole numbers, seen as one. -/
theorem ie {a b : Int} (h : a = b) : @Eq (Shape.int .i64).Val a b := h

/-- Loops by a number that grows less. -/
theorem loopP_of {S : Type} {F : S → (S → Prop) → Prop} (I : S → Prop) (μ : S → Nat) (hF : ∀ s (A : S → Prop), I s → (∀ s', I s' → μ s' < μ s → A s') → F s A) {s : S} (h : I s) : loopP F s := by
  have key : ∀ n s, I s → μ s < n → loopN F n s := by
    intro n
    induction n with
    | zero => intro s _ h; omega
    | succ n ih =>
      intro s hI hn
      exact hF s _ hI fun s' h1 h2 => ih s' h1 (by omega)
  exact ⟨μ s + 1, key _ s h (Nat.lt_succ_self _)⟩
end Go.Proofs.YtgeefhjlfdidmaaGreatDoor.V


/- The program's masks: what mask.Sane and mask.Set answer. No condition of its own. -/
namespace Go.Proofs.YtgeefhjlfdidmaaGreatDoor.V
open Go Go.RowKit
set_option linter.unusedVariables false
set_option linter.unusedSimpArgs false

theorem bl_length (s : ByteArray) : (bl s).length = s.size := by simp [bl]

theorem bl_get (s : ByteArray) {i : Nat} (h : i < s.size) : (bl s)[i]? = some (s[i]'h).toNat := by
  unfold bl
  have hd : i < s.data.toList.length := by simpa using h
  rw [List.getElem?_map, List.getElem?_eq_getElem hd]
  rfl

theorem strE_nil (s : ByteArray) : strE s (bytesOf []) = (bl s).isEmpty := by
  have e : (bytesOf []).data.toList = [] := rfl
  unfold strE bl
  rw [e]
  cases s.data.toList <;> simp

theorem mk_take_succ {l : List Nat} {f : Nat → Bool} {k c : Nat} (h : l[k]? = some c) : (l.take (k + 1)).all f = ((l.take k).all f && f c) := by
  rw [List.take_add_one, h]
  simp [List.all_append]

theorem all_false {l : List Nat} {f : Nat → Bool} {k c : Nat} (h : l[k]? = some c) (hc : f c = false) : l.all f = false := by
  rw [List.all_eq_false]
  exact ⟨c, List.mem_of_getElem? h, by rw [hc]; simp⟩

theorem ok_mask_Sane (s : ByteArray) : FnE bs n_mask_Sane [.raw (.string s)] .bool (· = saneM (bl s)) := by
  refine ok_of (e_mask_Sane s _) rfl ?_
  unfold c_mask_Sane
  refine loopP_of (fun z : Int => ∃ k : Nat, z = k ∧ k ≤ s.size ∧ ((bl s).take k).all isM = true) (fun z => s.size - z.toNat) ?_ ⟨0, rfl, Nat.zero_le _, rfl⟩
  rintro _ A ⟨k, rfl, hk, ha⟩ back
  unfold strK
  rw [Int.toNat_natCast]
  split
  · rename_i hlt
    have hg := bl_get s hlt
    generalize hb : (s[k]'hlt).toNat = b at hg
    have fBad : isM b = false → (false : Bool) = saneM (bl s) := fun h => by
      unfold saneM
      rw [all_false hg h]
      simp
    by_cases h128 : b < 128
    · have hd := decode_ascii s k hlt (by rw [hb]; exact h128)
      rw [hb] at hd
      rw [hd]
      have fOK : isM b = true → chk (s = s) (A ((k : Int) + ((1 : Nat) : Int))) := fun h => ⟨rfl, back _ ⟨k + 1, by simp, by omega, by rw [mk_take_succ hg, ha, h]; rfl⟩ (by omega)⟩
      have hN : ∀ {p : Prop}, (¬ p) → isM b = true → p → False := fun h _ k => h k
      refine cond_dec (fun h1 => cond_not (fun h2 => fBad ?_) fun h2 => fOK ?_) fun h1 => cond_dec (fun h2 => cond_not (fun h3 => fBad ?_) fun h3 => fOK ?_) fun h2 => fOK ?_
      · have := of_decide_eq_false h2; unfold isM; simp; omega
      · have := of_decide_eq_true h2; unfold isM; simp; omega
      · have := of_decide_eq_false h3; unfold isM; simp; omega
      · have := of_decide_eq_true h3; unfold isM; simp; omega
      · unfold isM; simp; omega
    · have hd := decode_high s k hlt (by rw [hb]; omega)
      have hbad := fBad (by unfold isM; simp; omega)
      refine cond_dec (fun h1 => cond_not (fun h2 => hbad) fun h2 => ?_) fun h1 => cond_dec (fun h2 => cond_not (fun h3 => hbad) fun h3 => ?_) fun h2 => ?_
      · have := of_decide_eq_true h2; omega
      · have := of_decide_eq_true h3; omega
      · omega
  · rename_i hlt
    have hks : k = s.size := by omega
    rw [hks, ← bl_length s, List.take_length] at ha
    rw [strE_nil]
    refine cond_not (fun h => ?_) fun h => ?_
    · show decide _ = saneM (bl s)
      unfold saneM
      rw [h, ha, bl_length]
      simp
      omega
    · show false = saneM (bl s)
      unfold saneM
      rw [h]
      rfl

theorem callAP_eq {B : Base} {f : FuncId} {args : List EV} {out : Shape} {K : out.Val → Prop} {v : out.Val} (h : FnE B f args out (· = v)) (k : K v) : callAP B f args out K := ⟨_, h, fun r e => by rw [e]; exact k⟩

theorem callAP_of {B : Base} {f : FuncId} {args : List EV} {out : Shape} {K : out.Val → Prop} {R : out.Val → Prop} (h : FnE B f args out R) (k : ∀ r, R r → K r) : callAP B f args out K := ⟨_, h, k⟩

theorem stepS_append (c : Nat) (x y : Runs) : stepS c (x ++ y) = stepS c x ++ stepS c y := by simp [stepS]

theorem stepS_take {c : Nat} {s : Runs} {j : Nat} {r : Int × Int} (h : s[j]? = some r) : stepS c (s.take (j + 1)) = stepS c (s.take j) ++ stepR c r := by
  rw [List.take_add_one, h, stepS_append]
  simp [stepS]

theorem stepS_part {c : Nat} {s : Runs} {j : Nat} {r : Int × Int} (h : s[j]? = some r) : (stepS c (s.take j)).length + (stepR c r).length ≤ (stepS c s).length := by
  have e := stepS_take (c := c) h
  have q : stepS c s = stepS c (s.take (j + 1)) ++ stepS c (s.drop (j + 1)) := by rw [← stepS_append, List.take_append_drop]
  rw [q, e]
  simp

theorem rd_run {s : Runs} {j : Nat} {r : Int × Int} (h : s[j]? = some r) : rd sRun s j = r := by
  unfold rd
  rw [List.getD_eq_getElem?_getD, h]
  rfl

theorem ok_mask_Set (s : ByteArray) : FnE bs n_mask_Set [.raw (.string s)] (.slice sRun) (· = if saneM (bl s) = true then setL (bl s) else []) := by
  refine ok_han (e_mask_Set s _) rfl (HanOK.ofList [(n_mask_Sane, .raw .bool)] rfl rfl trivial) ?_
  unfold c_mask_Set
  refine callAP_eq (ok_mask_Sane s) (cond_not (fun h => by rw [if_neg (by rw [h]; decide)]) fun h => ?_)
  rw [if_pos h]
  have h' := h
  unfold saneM at h'
  simp only [Bool.and_eq_true, decide_eq_true_eq] at h'
  obtain ⟨⟨_, hall⟩, h4⟩ := h'
  rw [bl_length] at h4
  have hpre : ∀ k, ((bl s).take k).all isM = true := fun k => by
    rw [List.all_eq_true]
    exact fun c hc => List.all_eq_true.1 hall c (List.mem_of_mem_take hc)
  refine loopP_of (fun z : Runs × Int => ∃ k : Nat, z.2 = k ∧ k ≤ s.size ∧ z.1 = setL ((bl s).take k)) (fun z => s.size - z.2.toNat) ?_ ⟨0, rfl, Nat.zero_le _, rfl⟩
  rintro ⟨out, _⟩ A ⟨k, rfl, hk, rfl⟩ back
  dsimp only at hk ⊢
  unfold strK
  rw [Int.toNat_natCast]
  split
  · rename_i hlt
    have hg := bl_get s hlt
    generalize hb : (s[k]'hlt).toNat = b at hg
    have hbM : isM b = true := List.all_eq_true.1 hall b (List.mem_of_getElem? hg)
    have hb128 : b < 128 := by unfold isM at hbM; simp at hbM; omega
    have hd := decode_ascii s k hlt (by rw [hb]; exact hb128)
    rw [hb] at hd
    rw [hd]
    dsimp only
    have hlk : ((bl s).take k).length = k := by rw [List.length_take, bl_length]; omega
    obtain ⟨o1, o2, _⟩ := setL_spec k ((bl s).take k) hlk (by omega) (hpre k)
    have hnext : setL ((bl s).take (k + 1)) = stepS b (setL ((bl s).take k)) := by rw [List.take_add_one, hg]; exact setL_snoc _ _
    have hlen : (stepS b (setL ((bl s).take k))).length ≤ 1000002 := by
      rw [← hnext]
      exact setL_length (k := k + 1) (by rw [List.length_take, bl_length]; omega) (by omega) (hpre _)
    have hlen0 : (setL ((bl s).take k)).length ≤ 1000002 := setL_length hlk (by omega) (hpre _)
    have hB : (10 : Int) ^ k - 1 ≤ 9999 := by
      have : k = 0 ∨ k = 1 ∨ k = 2 ∨ k = 3 ∨ k = 4 := by omega
      rcases this with rfl | rfl | rfl | rfl | rfl <;> decide
    generalize setL ((bl s).take k) = out at *
    refine loopP_of (fun z : Unit × Int × Runs => ∃ j : Nat, z.2.1 = j ∧ j ≤ out.length ∧ z.2.2 = stepS b (out.take j)) (fun z => out.length - z.2.1.toNat) ?_ ⟨0, rfl, Nat.zero_le _, rfl⟩
    rintro ⟨u, _, acc⟩ A2 ⟨j, rfl, hj, rfl⟩ back2
    dsimp only at hj ⊢
    refine cond_dec (fun hlt2 => ⟨⟨by omega, hlt2⟩, ?_⟩) fun hnlt => ?_
    · have hjl : j < out.length := by omega
      obtain ⟨r, hr⟩ : ∃ r, out[j]? = some r := ⟨_, List.getElem?_eq_getElem hjl⟩
      rw [Int.toNat_natCast, rd_run hr]
      have hrb := o2 r (List.mem_of_getElem? hr)
      have hpart := stepS_part (c := b) hr
      have hstep := stepS_take (c := b) hr
      refine cond_dec (fun h88 => ⟨?_, back2 _ ⟨j + 1, ?_, by omega, ?_⟩ ?_⟩) fun h88 => ?_
      · simp only [List.length_cons, List.length_nil]; omega
      · dsimp only; rw [w64_of (by omega)]; simp
      · dsimp only
        have hbb : b = 88 := by omega
        rw [hstep]
        unfold stepR
        rw [if_pos hbb, w64_of (by omega), w64_of (by rw [w64_of (by omega)]; omega), w64_of (by omega)]
      · dsimp only; rw [w64_of (by omega)]; omega
      · have hbd := isM_digit hbM (by omega)
        have hR : stepR b r = digs r.1 ((b : Int) - 48) (r.2 - r.1 + 1).toNat := by unfold stepR; rw [if_neg (by omega)]
        rw [hR, digs_length] at hpart
        have hw : IntKind.wrap .i32 (((b : Nat) : Int) - 48) = (b : Int) - 48 := by rw [IntKind.wrap_i32]; omega
        refine loopP_of (fun z : Unit × Int × Runs => ∃ i : Nat, z.2.1 = r.1 + i ∧ r.1 + i ≤ r.2 + 1 ∧ z.2.2 = stepS b (out.take j) ++ digs r.1 ((b : Int) - 48) i) (fun z => (r.2 + 1 - z.2.1).toNat) ?_ ⟨0, by dsimp only; omega, by omega, by simp [digs]⟩
        rintro ⟨u3, _, acc3⟩ A3 ⟨i, rfl, hi, rfl⟩ back3
        dsimp only at hi ⊢
        refine cond_dec (fun hle => ?_) fun hnle => ?_
        · have e1 : w64 ((r.1 + (i : Int)) * 10) = (r.1 + i) * 10 := w64_of (by omega)
          have e2 : w64 ((b : Int) - 48) = (b : Int) - 48 := w64_of (by omega)
          have e3 : w64 ((r.1 + (i : Int)) * 10 + ((b : Int) - 48)) = (r.1 + i) * 10 + ((b : Int) - 48) := w64_of (by omega)
          have e4 : w64 (r.1 + (i : Int) + 1) = r.1 + i + 1 := w64_of (by omega)
          refine ⟨?_, ?_⟩
          · simp only [List.length_append, digs_length, List.length_cons, List.length_nil]
            omega
          · refine back3 _ ⟨i + 1, ?_, by omega, ?_⟩ ?_
            · dsimp only; rw [e4]; simp; omega
            · dsimp only; rw [hw, e1, e2, e3, List.append_assoc]; rfl
            · dsimp only; rw [e4]; omega
        · refine back2 _ ⟨j + 1, ?_, by omega, ?_⟩ ?_
          · dsimp only; rw [w64_of (by omega)]; simp
          · dsimp only
            rw [hstep, hR, show (r.2 - r.1 + 1).toNat = i by omega]
          · dsimp only; rw [w64_of (by omega)]; omega
    · have hj2 : j = out.length := by omega
      refine ⟨rfl, back _ ⟨k + 1, by simp, by omega, ?_⟩ ?_⟩
      · dsimp only
        rw [hnext, hj2, List.take_length]
      · dsimp only; omega
  · rename_i hlt
    show setL ((bl s).take k) = setL (bl s)
    rw [show k = (bl s).length by rw [bl_length]; omega, List.take_length]
end Go.Proofs.YtgeefhjlfdidmaaGreatDoor.V


/- Whole numbers, dates and units: what the program's functions answer. No condition of its own. -/
namespace Go.Proofs.YtgeefhjlfdidmaaGreatDoor.V
open Go
set_option linter.unusedVariables false
set_option linter.unusedSimpArgs false

theorem ok_ints_Floor {a b : Int} (ha : inI a) (hb : 1 ≤ b ∧ b ≤ 9223372036854775807) : FnE bs n_ints_Floor ((Shape.pair (.int .i64) (.int .i64)).compsE (a, b)) (.int .i64) (· = a / b) := by
  refine ok_of (e_ints_Floor (a, b) _) rfl ?_
  unfold c_ints_Floor
  unfold inI at ha
  refine cond_dec (fun h => by omega) fun _ => cond_dec (fun h => ⟨by dsimp only; omega, ?_⟩) fun h => ⟨by dsimp only; omega, ?_⟩
  · dsimp only at h ⊢
    have hm := Int.emod_nonneg a (b := b) (by omega)
    have hl := Int.emod_lt_of_pos a (b := b) (by omega)
    have hd := Int.mul_ediv_add_emod a b
    rw [w64_of (n := a + 1) (by omega)]
    have e : Int.tdiv (a + 1) b = a / b + 1 := by
      by_cases h1 : a + 1 < 0
      · rw [tdiv_neg h1 hb.1]
        by_cases hb1 : b = 1
        · subst hb1; simp
        · by_cases h2 : a % b + 1 = b
          · have e1 : (a + 1) = b * (a / b + 1) := by rw [Int.mul_add, Int.mul_one]; omega
            have e2 : (a + 1) % b = 0 := by rw [e1]; exact Int.mul_emod_right _ _
            rw [if_pos e2, e1]
            exact Int.mul_ediv_cancel_left _ (by omega)
          · have e3 : (a + 1) % b = a % b + 1 := by rw [show a + 1 = (a % b + 1) + b * (a / b) by omega, Int.add_mul_emod_self_left]; exact Int.emod_eq_of_lt (by omega) (by omega)
            have e4 : (a + 1) / b = a / b := by
              rw [show a + 1 = (a % b + 1) + b * (a / b) by omega, Int.add_mul_ediv_left _ _ (by omega), Int.ediv_eq_zero_of_lt (by omega) (by omega)]
              omega
            rw [if_neg (by omega), e4]
      · have : a = -1 := by omega
        subst this
        rw [Int.neg_one_ediv, Int.sign_eq_one_of_pos (by omega)]
        simp
    rw [e]
    have h1 : a / b ≤ -1 := by
      have := Int.ediv_neg_of_neg_of_pos h (show 0 < b by omega)
      omega
    have h2 : -9223372036854775808 ≤ a / b := by
      rw [Int.le_ediv_iff_mul_le (by omega)]
      have : -9223372036854775808 * b ≤ -9223372036854775808 * 1 := Int.mul_le_mul_of_nonpos_left (by omega) hb.1
      omega
    rw [w64_of (n := a / b + 1) (by omega), w64_of (n := a / b + 1 - 1) (by omega)]
    exact ie (by omega)
  · dsimp only at h ⊢
    rw [tdiv_of (by omega)]
    have h0 := Int.ediv_nonneg (a := a) (b := b) (by omega) (by omega)
    have h1 := Int.ediv_le_self b (show 0 ≤ a by omega)
    exact w64_of (by omega)

theorem ok_ints_Mod {a b : Int} (ha : inI a) (hb : 1 ≤ b ∧ b ≤ 9223372036854775807) : FnE bs n_ints_Mod ((Shape.pair (.int .i64) (.int .i64)).compsE (a, b)) (.int .i64) (· = a % b) := by
  refine ok_of (e_ints_Mod (a, b) _) rfl ?_
  unfold c_ints_Mod
  unfold inI at ha
  have hm := Int.emod_nonneg a (b := b) (by omega)
  have hl := Int.emod_lt_of_pos a (b := b) (by omega)
  refine cond_dec (fun h => by dsimp only at h; omega) fun _ => ⟨by dsimp only; omega, cond_dec (fun h => ?_) fun h => ⟨by dsimp only; omega, ?_⟩⟩
  · dsimp only at h ⊢
    by_cases h0 : 0 ≤ a
    · rw [tmod_of h0] at h; omega
    · rw [tmod_neg (by omega) hb.1] at h ⊢
      split at h
      · omega
      · rename_i q
        rw [if_neg q, w64_of (by omega)]
        exact ie (by omega)
  · dsimp only at h ⊢
    by_cases h0 : 0 ≤ a
    · rw [tmod_of h0]
    · rw [tmod_neg (by omega) hb.1] at h ⊢
      split at h
      · rename_i q; rw [if_pos q]; exact ie (by omega)
      · omega

theorem ok_civil_Leap {y : Int} (hy : inI y) : FnE bs n_civil_Leap ((Shape.int .i64).compsE y) .bool (· = decide (VCal.Leap y)) := by
  refine ok_of (e_civil_Leap y _) rfl ?_
  unfold c_civil_Leap
  refine callP_eq (ok_ints_Mod hy (by omega)) (cond_dec (fun h => ?_) fun h => callP_eq (ok_ints_Mod hy (by omega)) (cond_dec (fun h2 => callP_eq (ok_ints_Mod hy (by omega)) ?_) fun h2 => ?_))
  · unfold VCal.Leap; simp [h]
  · unfold VCal.Leap; simp [h, h2]
  · unfold VCal.Leap; simp [h, h2]

theorem lens_eq {m : Int} (h : 1 ≤ m ∧ m ≤ 12) : ([(0 : Int), (31 : Int), (28 : Int), (31 : Int), (30 : Int), (31 : Int), (30 : Int), (31 : Int), (31 : Int), (30 : Int), (31 : Int), (30 : Int), (31 : Int)] : List Int).getD (0 + m.toNat) 0 = VCal.lens m.toNat := by
  rcases VCal.months h.1 h.2 with rfl | rfl | rfl | rfl | rfl | rfl | rfl | rfl | rfl | rfl | rfl | rfl <;> rfl

theorem ok_civil_Days {y m : Int} (hy : inI y) : FnE bs n_civil_Days ((Shape.pair (.int .i64) (.int .i64)).compsE (y, m)) (.int .i64) (· = VCal.mlen y m) := by
  refine ok_of (e_civil_Days (y, m) _) rfl ?_
  unfold c_civil_Days VCal.mlen
  refine cond_dec (fun h => ?_) fun h => cond_dec (fun h2 => ?_) fun h2 => cond_dec (fun h3 => callP_eq (ok_civil_Leap hy) (cond_bool (fun h4 => ?_) fun h4 => ⟨by dsimp only at *; omega, ?_⟩)) fun h3 => ⟨by dsimp only at *; omega, ?_⟩
  · rw [if_pos h]
  · dsimp only at *; rw [if_neg h, if_pos h2]
  · dsimp only at *; rw [if_neg h, if_neg (by omega), if_pos h3, if_pos (by simpa using h4)]
  · dsimp only at *; rw [if_neg h, if_neg (by omega), if_pos h3, if_neg (by simpa using h4), h3]; rfl
  · dsimp only at *; rw [if_neg h, if_neg (by omega), if_neg h3]; exact lens_eq (by omega)

theorem ok_civil_Valid {y m d : Int} (hy : inI y) : FnE bs n_civil_Valid ((Shape.pair (.int .i64) (.pair (.int .i64) (.int .i64))).compsE (y, m, d)) .bool (· = decide (VCal.Valid y m d)) := by
  refine ok_of (e_civil_Valid (y, m, d) _) rfl ?_
  unfold c_civil_Valid VCal.Valid
  refine cond_dec (fun h => cond_dec (fun h2 => cond_dec (fun h3 => callP_eq (ok_civil_Days hy) ?_) fun h3 => ?_) fun h2 => ?_) fun h => ?_ <;> dsimp only at *
  · simp [h, h2, h3]
  · simp [h3]
  · simp [h2]
  · simp [h]

theorem era_sum (y' : Int) (h : -1 ≤ y' ∧ y' ≤ 9999) : y' / 400 * 146097 + y' % 400 * 365 + y' % 400 / 4 - y' % 400 / 100 = 365 * y' + y' / 4 - y' / 100 + y' / 400 := by
  have h0 : y' = 400 * (y' / 400) + y' % 400 := by omega
  generalize hE : y' / 400 = E at *
  generalize hR : y' % 400 = R at *
  have hr : 0 ≤ R ∧ R < 400 := by omega
  have h1 : y' / 4 = 100 * E + R / 4 := by omega
  have h2 : y' / 100 = 4 * E + R / 100 := by omega
  omega
theorem number_sum (y' k d : Int) (hy : -1 ≤ y' ∧ y' ≤ 9999) (hk : 0 ≤ k ∧ k ≤ 11) (hd : 1 ≤ d ∧ d ≤ 31) :
    w64 ((w64 ((w64 ((w64 ((w64 ((w64 (y' / 400 * 146097)) + (w64 (y' % 400 * 365)))) + (w64 (Int.tdiv (y' % 400) 4)))) - (w64 (Int.tdiv (y' % 400) 100)))) + (w64 ((w64 ((w64 (Int.tdiv (w64 ((w64 (153 * k)) + 2)) 5)) + d)) - 1)))) + 60) = 365 * y' + y' / 4 - y' / 100 + y' / 400 + (153 * k + 2) / 5 + d + 59 := by
  have e := era_sum y' hy
  have b1 : -1 ≤ y' / 400 ∧ y' / 400 ≤ 24 := by omega
  have b2 : 0 ≤ y' % 400 ∧ y' % 400 < 400 := by omega
  generalize y' / 400 = E at *
  generalize y' % 400 = R at *
  simp (disch := omega) only [w64_of, tdiv_of]
  omega

theorem ok_civil_Number {y m d : Int} (hy : inI y) : FnE bs n_civil_Number ((Shape.pair (.int .i64) (.pair (.int .i64) (.int .i64))).compsE (y, m, d)) (.tup (.pair (.int .i64) .bool)) (· = if VCal.Valid y m d then (VCal.num y m d, true) else (0, false)) := by
  refine ok_of (e_civil_Number (y, m, d) _) rfl ?_
  unfold c_civil_Number
  refine callP_eq (ok_civil_Valid hy) (cond_not (fun hv => ?_) fun hv => ?_)
  · have hv : ¬ VCal.Valid y m d := by simpa using hv
    rw [if_neg hv]
  · have hv : VCal.Valid y m d := by simpa using hv
    rw [if_pos hv]
    have hm := VCal.valid_month hv
    have hl := VCal.mlen_pos (y := y) hm.1 hm.2
    obtain ⟨v0, v1, v2, v3⟩ := hv
    unfold VCal.num
    refine cond_dec (fun h3 => ?_) fun h3 => ?_ <;> dsimp only at h3 ⊢
    · rw [if_pos h3, w64_of (n := y - 1) (by omega)]
      refine callP_eq (ok_ints_Floor (by unfold inI; omega) (by omega)) (callP_eq (ok_ints_Mod (by unfold inI; omega) (by omega)) ⟨by omega, by omega, by omega, ?_⟩)
      rw [w64_of (n := m + 12) (by omega), w64_of (n := m + 12 - 3) (by omega), show m + 12 - 3 = m + 9 by omega, number_sum (y - 1) (m + 9) d (by omega) (by omega) (by omega)]
    · rw [if_neg h3]
      refine callP_eq (ok_ints_Floor (by unfold inI; omega) (by omega)) (callP_eq (ok_ints_Mod (by unfold inI; omega) (by omega)) ⟨by omega, by omega, by omega, ?_⟩)
      rw [w64_of (n := m - 3) (by omega), number_sum y (m - 3) d (by omega) (by omega) (by omega)]
end Go.Proofs.YtgeefhjlfdidmaaGreatDoor.V


/- Numbers' dates, and units: what the program's functions answer. No condition of its own. -/
namespace Go.Proofs.YtgeefhjlfdidmaaGreatDoor.V
open Go
set_option linter.unusedVariables false
set_option linter.unusedSimpArgs false

theorem ok_civil_Date {n : Int} : FnE bs n_civil_Date ((Shape.int .i64).compsE n) (.tup (.pair (.int .i64) (.pair (.int .i64) (.int .i64)))) (· = if 0 ≤ n ∧ n ≤ 3652424 then VCal.dateOf n else (0, 0, 0)) := by
  refine ok_of (e_civil_Date n _) rfl ?_
  unfold c_civil_Date
  refine cond_dec (fun h => by rw [if_neg (by omega)]) fun h => cond_dec (fun h2 => by rw [if_neg (by omega)]) fun h2 => ?_
  rw [w64_of (n := n - 60) (by omega), if_pos (by omega)]
  refine callP_eq (ok_ints_Floor (by unfold inI; omega) (by omega)) (callP_eq (ok_ints_Mod (by unfold inI; omega) (by omega)) ⟨by omega, by omega, by omega, by omega, by omega, by omega, by omega, by omega, ?_⟩)
  dsimp only
  obtain ⟨c, q, r, day, hc, hq, hr, hd, hl, hx⟩ := VCal.split_400 ((n - 60) % 146097) (by omega)
  have ho := VCal.of_year c q r day hc hq hr hd hl
  simp only [← hx] at ho
  obtain ⟨mk, md, hk, hdd, hd1, hk1, hki, hcase⟩ := VCal.months_of_year day hd
  obtain ⟨hv1, hv2⟩ := VCal.of_divs c q r hc hq hr
  have hday : (n - 60) % 146097 - ((100 * c + 4 * q + r) * 365 + (100 * c + 4 * q + r) / 4 - (100 * c + 4 * q + r) / 100) = day := by rw [hv1, hv2]; omega
  have e : VCal.dateOf n = if day ≥ 306 then ((n - 60) / 146097 * 400 + (100 * c + 4 * q + r) + 1, mk - 9, md) else ((n - 60) / 146097 * 400 + (100 * c + 4 * q + r), mk + 3, md) := by
    unfold VCal.dateOf
    simp only [ho, hday, hk, hdd]
  rw [e]
  clear e
  have bE : -1 ≤ (n - 60) / 146097 ∧ (n - 60) / 146097 ≤ 24 := by omega
  have bx : 0 ≤ (n - 60) % 146097 ∧ (n - 60) % 146097 < 146097 := by omega
  generalize (n - 60) / 146097 = E at *
  generalize (n - 60) % 146097 = x at *
  have hA : w64 ((w64 ((w64 (x - (w64 (Int.tdiv x 1460)))) + (w64 (Int.tdiv x 36524)))) - (w64 (Int.tdiv x 146096))) = x - x / 1460 + x / 36524 - x / 146096 := by
    clear ho hcase hx hl hday hv1 hv2 hk hdd hki
    simp (disch := omega) only [w64_of, tdiv_of]
  have hA0 : 0 ≤ x - x / 1460 + x / 36524 - x / 146096 ∧ x - x / 1460 + x / 36524 - x / 146096 ≤ 200000 := by
    clear ho hcase hx hl hday hv1 hv2 hk hdd hki hA
    omega
  rw [hA]
  generalize x - x / 1460 + x / 36524 - x / 146096 = B at *
  have hO : w64 (Int.tdiv B 365) = 100 * c + 4 * q + r := by rw [tdiv_of hA0.1, ho, w64_of (by omega)]
  rw [hO]
  have bO : 0 ≤ 100 * c + 4 * q + r ∧ 100 * c + 4 * q + r ≤ 399 := by omega
  generalize 100 * c + 4 * q + r = O at *
  have hD : w64 (x - (w64 ((w64 ((w64 (O * 365)) + (w64 (Int.tdiv O 4)))) - (w64 (Int.tdiv O 100))))) = day := by
    rw [tdiv_of bO.1, tdiv_of bO.1, hv1, hv2]
    simp (disch := omega) only [w64_of]
    rw [← hday, hv1, hv2]
  rw [hD]
  have hK : w64 (Int.tdiv (w64 ((w64 (5 * day)) + 2)) 153) = mk := by
    rw [w64_of (n := 5 * day) (by omega), w64_of (n := 5 * day + 2) (by omega), tdiv_of (by omega), hk, w64_of (by omega)]
  rw [hK]
  have hM : w64 ((w64 (day - (w64 (Int.tdiv (w64 ((w64 (153 * mk)) + 2)) 5)))) + 1) = md := by
    rw [w64_of (n := 153 * mk) (by omega), w64_of (n := 153 * mk + 2) (by omega), tdiv_of (by omega), w64_of (n := (153 * mk + 2) / 5) (by omega), w64_of (n := day - (153 * mk + 2) / 5) (by omega), hdd, w64_of (by omega)]
  rw [hM]
  rw [w64_of (n := E * 400) (by omega), w64_of (n := E * 400 + O) (by omega), w64_of (n := E * 400 + O + 1) (by omega), w64_of (n := mk - 9) (by omega), w64_of (n := mk + 3) (by omega)]
  refine cond_dec (fun h => by rw [if_pos (by omega)]) fun h => by rw [if_neg (by omega)]

/-! ### Units -/

theorem ok_unit_monthly {n : Int} (h : 0 ≤ n ∧ n ≤ 3652424) : FnE bs n_unit_monthly ((Shape.int .i64).compsE n) (.int .i64) (· = VCal.mon n) := by
  refine ok_of (e_unit_monthly n _) rfl ?_
  unfold c_unit_monthly
  refine callP_eq ok_civil_Date ?_
  rw [if_pos h]
  obtain ⟨v, _⟩ := VCal.date_num h
  have hm := VCal.valid_month v
  obtain ⟨v0, v1, v2, v3⟩ := v
  unfold VCal.mon
  rw [w64_of (n := 12 * (VCal.dateOf n).1) (by omega), w64_of (n := 12 * (VCal.dateOf n).1 + (VCal.dateOf n).2.1) (by omega), w64_of (n := 12 * (VCal.dateOf n).1 + (VCal.dateOf n).2.1 - 1) (by omega)]

theorem ok_unit_span_begins {m f c i : Int} (hm : inI m ∧ inI f ∧ inI i) (hp : inI (m * i)) (h : 0 ≤ f + m * i ∧ f + m * i < 120000) : FnE bs n_unit_span_begins ((Shape.pair sUnitSpan (.int .i64)).compsE ((m, f, c), i)) (.int .i64) (· = VCal.mfirst (f + m * i)) := by
  refine ok_of (e_unit_span_begins ((m, f, c), i) _) rfl ?_
  unfold c_unit_span_begins
  unfold inI at hp
  have hv := VCal.valid_first h
  refine ⟨by omega, by omega, ?_⟩
  dsimp only
  rw [w64_of (n := m * i) hp, w64_of (n := f + m * i) (by omega), tdiv_of h.1, tmod_of h.1, w64_of (n := (f + m * i) / 12) (by omega), w64_of (n := (f + m * i) % 12 + 1) (by omega)]
  refine callP_eq (ok_civil_Number (by unfold inI; omega)) ?_
  rw [if_pos hv]
  rfl

theorem ok_unit_span_number {m f c d : Int} (hm : 1 ≤ m ∧ m ≤ 120000) (hf : 0 ≤ f ∧ f ≤ 120000) (h : 0 ≤ d ∧ d ≤ 3652424) : FnE bs n_unit_span_number ((Shape.pair sUnitSpan (.int .i64)).compsE ((m, f, c), d)) (.int .i64) (· = if VCal.mon d - f < 0 then -1 else (VCal.mon d - f) / m) := by
  refine ok_of (e_unit_span_number ((m, f, c), d) _) rfl ?_
  unfold c_unit_span_number
  refine callP_eq (ok_unit_monthly h) ?_
  obtain ⟨hb, _⟩ := VCal.mon_spec h
  dsimp only
  rw [w64_of (n := VCal.mon d - f) (by omega)]
  refine cond_dec (fun h => by rw [if_pos h]) fun h => ⟨by omega, ?_⟩
  rw [if_neg h, tdiv_of (by omega)]
  have h0 := Int.ediv_nonneg (a := VCal.mon d - f) (b := m) (by omega) (by omega)
  have h1 := Int.ediv_le_self m (show 0 ≤ VCal.mon d - f by omega)
  exact w64_of (by omega)

/-- What a way of units of months does. -/
def beginsF (m f : Int) (i : Int) : Option Int := if inI m ∧ inI f ∧ inI i ∧ inI (m * i) ∧ 0 ≤ f + m * i ∧ f + m * i < 120000 then some (VCal.mfirst (f + m * i)) else none
def numberF (m f : Int) (d : Int) : Option Int := if 0 ≤ d ∧ d ≤ 3652424 then some (if VCal.mon d - f < 0 then -1 else (VCal.mon d - f) / m) else none

theorem ok_unit_of {m f c : Int} (hm : 1 ≤ m ∧ m ≤ 120000) (hf : 0 ≤ f ∧ f < 120000) : FnE bs n_unit_of (sUnitSpan.compsE (m, f, c)) sUnitWay (· = (c, beginsF m f, numberF m f)) := by
  have k1 : ∀ i r, beginsF m f i = some r → FnE bs n_unit_of_1 ([] ++ Shape.compsE (.int .i64) i ++ [(.ip [(.clo (.func 105) [] [])] 0), (.ip [(.p (.int .i64) m), (.p (.int .i64) f), (.p (.int .i64) c)] 0)]) (.int .i64) (· = r) := by
    intro i r h
    unfold beginsF at h
    split at h
    · rename_i q
      obtain ⟨q1, q2, q3, q4, q5⟩ := q
      refine ok_of (e_unit_of_1 (m, f, c) i _) rfl ?_
      unfold c_unit_of_1
      refine callP_eq (ok_unit_span_begins ⟨q1, q2, q3⟩ q4 q5) ?_
      exact Option.some.inj h
    · cases h
  have k2 : ∀ d r, numberF m f d = some r → FnE bs n_unit_of_2 ([] ++ Shape.compsE (.int .i64) d ++ [(.ip [(.clo (.func 106) [] [])] 0), (.ip [(.p (.int .i64) m), (.p (.int .i64) f), (.p (.int .i64) c)] 0)]) (.int .i64) (· = r) := by
    intro d r h
    unfold numberF at h
    split at h
    · rename_i q
      refine ok_of (e_unit_of_2 (m, f, c) d _) rfl ?_
      unfold c_unit_of_2
      refine callP_eq (ok_unit_span_number (m := m) (f := f) (c := c) hm (by omega) q) ?_
      exact Option.some.inj h
    · cases h
  refine ok_of (e_unit_of (m, f, c) _) rfl ?_
  unfold c_unit_of
  refine ⟨beginsF m f, ⟨(k1 0 (VCal.mfirst f) ?_).1, k1⟩, numberF m f, ⟨(k2 0 _ rfl).1, k2⟩, rfl⟩
  unfold beginsF
  rw [if_pos (by unfold inI; simp; omega)]
  simp

theorem ok_unit_days_begins {i : Int} : FnE bs n_unit_days_begins ((Shape.pair sUnitDays (.int .i64)).compsE ((), i)) (.int .i64) (· = i) := ok_of (e_unit_days_begins ((), i) _) rfl rfl
theorem ok_unit_days_number {i : Int} : FnE bs n_unit_days_number ((Shape.pair sUnitDays (.int .i64)).compsE ((), i)) (.int .i64) (· = i) := ok_of (e_unit_days_number ((), i) _) rfl rfl
theorem ok_unit_find_1 {i : Int} : FnE bs n_unit_find_1 ((Shape.int .i64).compsE i) (.int .i64) (· = i) := ok_of (e_unit_find_1 i _) rfl (callP_eq ok_unit_days_begins rfl)
theorem ok_unit_find_2 {i : Int} : FnE bs n_unit_find_2 ((Shape.int .i64).compsE i) (.int .i64) (· = i) := ok_of (e_unit_find_2 i _) rfl (callP_eq ok_unit_days_number rfl)

/-- A kind's way. -/
def wayOf (kind : Int) : (Int × ((Int → Option Int) × (Int → Option Int))) × Bool :=
  if kind = 0 then ((3652425, some, some), true) else match VCal.tab kind with
    | some (m, f, c) => ((c, beginsF m f, numberF m f), true)
    | none => ((0, fun _ => none, fun _ => none), false)

theorem tab_out {kind : Int} (h : kind < 0 ∨ 6 ≤ kind) : VCal.tab kind = none := by
  cases ht : VCal.tab kind with
  | none => rfl
  | some t => obtain ⟨m, f, c⟩ := t; have := VCal.tab_cases ht; omega

theorem ok_unit_find {kind : Int} : FnE bs n_unit_find ((Shape.int .i64).compsE kind) (.tup (.pair sUnitWay .bool)) (· = wayOf kind) := by
  refine ok_of (e_unit_find kind _) rfl ?_
  unfold c_unit_find
  refine callP_eq (ok_unit_of (by omega) (by omega)) (callP_eq (ok_unit_of (by omega) (by omega)) (callP_eq (ok_unit_of (by omega) (by omega)) (callP_eq (ok_unit_of (by omega) (by omega)) (callP_eq (ok_unit_of (by omega) (by omega)) ?_))))
  refine ⟨some, ⟨(ok_unit_find_1 (i := 0)).1, fun x r h => by cases h; exact ok_unit_find_1⟩, some, ⟨(ok_unit_find_2 (i := 0)).1, fun x r h => by cases h; exact ok_unit_find_2⟩, ?_⟩
  refine cond_dec (fun h => ?_) fun h => cond_dec (fun h2 => ?_) fun h2 => ?_
  · unfold wayOf; rw [if_neg (by omega), tab_out (by omega)]
  · unfold wayOf; simp only [List.length_cons, List.length_nil] at h2; rw [if_neg (by omega), tab_out (by omega)]
  · simp only [List.length_cons, List.length_nil] at h2
    refine ⟨⟨by omega, by simp only [List.length_cons, List.length_nil]; omega⟩, ?_⟩
    have : kind = 0 ∨ kind = 1 ∨ kind = 2 ∨ kind = 3 ∨ kind = 4 ∨ kind = 5 := by omega
    rcases this with rfl | rfl | rfl | rfl | rfl | rfl <;> rfl

theorem ok_unit_Count {kind : Int} : FnE bs n_unit_Count ((Shape.int .i64).compsE kind) (.int .i64) (· = VCal.ucount kind) := by
  refine ok_of (e_unit_Count kind _) rfl ?_
  unfold c_unit_Count
  refine callP_eq ok_unit_find ?_
  unfold wayOf VCal.ucount
  by_cases hk : kind = 0
  · rw [if_pos hk, if_pos hk]
  · rw [if_neg hk, if_neg hk]
    cases VCal.tab kind <;> rfl

/-- What a unit's first and last day, and a day's unit, are told to be. -/
def firstS (kind i : Int) : Int × Bool := if 0 ≤ i ∧ i < VCal.ucount kind then (VCal.ufirst kind i, true) else (0, false)
def lastS (kind i : Int) : Int × Bool := if 0 ≤ i ∧ i < VCal.ucount kind then (VCal.ulast kind i, true) else (0, false)
def ofS (kind d : Int) : Int × Bool := match VCal.uof kind d with
  | some n => (n, true)
  | none => (0, false)

theorem way_begins {kind i : Int} (h0 : 0 ≤ i) (h1 : i < VCal.ucount kind) : (wayOf kind).2 = true ∧ (wayOf kind).1.1 = VCal.ucount kind ∧ (wayOf kind).1.2.1 i = some (VCal.ufirst kind i) := by
  unfold wayOf VCal.ucount VCal.ufirst
  by_cases hk : kind = 0
  · subst hk; exact ⟨rfl, rfl, rfl⟩
  · cases ht : VCal.tab kind with
    | none => exfalso; unfold VCal.ucount at h1; rw [if_neg hk, ht] at h1; dsimp only at h1; omega
    | some t =>
      obtain ⟨m, f, c⟩ := t
      have hc : VCal.ucount kind = c := by unfold VCal.ucount; rw [if_neg hk, ht]
      rw [hc] at h1
      have hf := VCal.tab_fit ht h0 h1
      have hm := VCal.tab_cases ht
      simp only [if_neg hk]
      refine ⟨trivial, trivial, ?_⟩
      have hmi : 0 ≤ m * i := Int.mul_nonneg (by omega) h0
      unfold beginsF
      rw [if_pos (by unfold inI; omega)]

theorem way_count {kind : Int} (h : (wayOf kind).2 = true) : (wayOf kind).1.1 = VCal.ucount kind := by
  unfold wayOf at *
  unfold VCal.ucount
  by_cases hk : kind = 0
  · rw [if_pos hk, if_pos hk]
  · rw [if_neg hk] at h ⊢
    rw [if_neg hk]
    cases ht : VCal.tab kind with
    | none => rw [ht] at h
    | some t => rfl

theorem way_none {kind : Int} (h : (wayOf kind).2 = false) : VCal.ucount kind = 0 := by
  unfold wayOf at *
  unfold VCal.ucount
  by_cases hk : kind = 0
  · rw [if_pos hk] at h; cases h
  · rw [if_neg hk] at h ⊢
    cases ht : VCal.tab kind with
    | none => rfl
    | some t => rw [ht] at h; cases h

theorem ok_unit_First {kind i : Int} : FnE bs n_unit_First ((Shape.pair (.int .i64) (.int .i64)).compsE (kind, i)) (.tup (.pair (.int .i64) .bool)) (· = firstS kind i) := by
  refine ok_of (e_unit_First (kind, i) _) rfl ?_
  unfold c_unit_First firstS
  refine callP_eq ok_unit_find (cond_not (fun h => ?_) fun h => cond_dec (fun h2 => ?_) fun h2 => cond_dec (fun h3 => ?_) fun h3 => ?_) <;> dsimp only [Shape.Val] at *
  · have := way_none h; rw [if_neg (by omega)]
  · rw [if_neg (by omega)]
  · rw [way_count h] at h3; rw [if_neg (by omega)]
  · rw [way_count h] at h3
    have hw := way_begins (kind := kind) (i := i) (by omega) (by omega)
    exact gcall_eq hw.2.2 (by rw [if_pos (by omega)])

theorem ok_unit_Last {kind i : Int} : FnE bs n_unit_Last ((Shape.pair (.int .i64) (.int .i64)).compsE (kind, i)) (.tup (.pair (.int .i64) .bool)) (· = lastS kind i) := by
  refine ok_of (e_unit_Last (kind, i) _) rfl ?_
  unfold c_unit_Last lastS
  have hc := VCal.ucount_pos kind
  refine callP_eq ok_unit_find (cond_not (fun h => ?_) fun h => cond_dec (fun h2 => ?_) fun h2 => cond_dec (fun h3 => ?_) fun h3 => cond_dec (fun h4 => ?_) fun h4 => ?_) <;> dsimp only [Shape.Val] at *
  · have := way_none h; rw [if_neg (by omega)]
  · rw [if_neg (by omega)]
  · rw [way_count h] at h3; rw [if_neg (by omega)]
  · rw [way_count h, w64_of (by omega)] at h4
    rw [way_count h] at h3
    rw [if_pos (by omega)]
    unfold VCal.ulast
    rw [if_pos h4]
  · rw [way_count h, w64_of (by omega)] at h4
    rw [way_count h] at h3
    have hw := way_begins (kind := kind) (i := i + 1) (by omega) (by omega)
    have hu := VCal.unit_in (kind := kind) (i := i + 1) (by omega) (by omega)
    rw [w64_of (n := i + 1) (by omega)]
    refine gcall_eq hw.2.2 ?_
    rw [if_pos (by omega), w64_of (by omega)]
    unfold VCal.ulast
    rw [if_neg h4]

theorem ok_unit_Of {kind d : Int} : FnE bs n_unit_Of ((Shape.pair (.int .i64) (.int .i64)).compsE (kind, d)) (.tup (.pair (.int .i64) .bool)) (· = ofS kind d) := by
  refine ok_of (e_unit_Of (kind, d) _) rfl ?_
  unfold c_unit_Of ofS
  have huof : ¬ (0 ≤ d ∧ d ≤ 3652424) → VCal.uof kind d = none := fun h => by unfold VCal.uof; rw [if_neg h]
  refine callP_eq ok_unit_find (cond_not (fun h => ?_) fun h => cond_dec (fun h2 => ?_) fun h2 => cond_dec (fun h3 => ?_) fun h3 => ?_) <;> dsimp only [Shape.Val] at *
  · have : VCal.uof kind d = none := by
      cases hu : VCal.uof kind d with
      | none => rfl
      | some n => have := VCal.uof_some.mp hu; have := way_none h; omega
    rw [this]
  · rw [huof (by omega)]
  · rw [huof (by omega)]
  · have hd : 0 ≤ d ∧ d ≤ 3652424 := by omega
    unfold VCal.uof wayOf
    rw [if_pos hd]
    unfold wayOf at h
    by_cases hk : kind = 0
    · subst hk
      refine gcall_eq (r := d) rfl ?_
      simp only [if_true]
      unfold maxI
      rw [if_neg (by omega), decide_eq_true (by omega)]
    · rw [if_neg hk] at h ⊢
      cases ht : VCal.tab kind with
      | none => rw [ht] at h; cases h
      | some t =>
        obtain ⟨m, f, c⟩ := t
        have hm := VCal.tab_cases ht
        dsimp only
        rw [if_neg hk]
        unfold numberF
        refine gcall_eq (by rw [if_pos hd]) ?_
        by_cases hf : VCal.mon d - f < 0
        · rw [if_pos hf, if_pos hf]; rfl
        · rw [if_neg hf, if_neg hf]
          have h0 := Int.ediv_nonneg (a := VCal.mon d - f) (b := m) (by omega) (by omega)
          unfold maxI
          rw [decide_eq_true h0, if_neg (by omega)]
end Go.Proofs.YtgeefhjlfdidmaaGreatDoor.V


/- Sets as runs: what the program's functions answer of lists that are sets. No condition of its own. -/
namespace Go.Proofs.YtgeefhjlfdidmaaGreatDoor.V
open Go
set_option linter.unusedVariables false
set_option linter.unusedSimpArgs false

theorem rd_of {s : Shape} {xs : List s.Val} {k : Nat} {r : s.Val} (h : xs[k]? = some r) : rd s xs k = r := by
  unfold rd
  rw [List.getD_eq_getElem?_getD, h]
  rfl

theorem drop_cons {α : Type} {s : List α} {k : Nat} {r : α} (h : s[k]? = some r) : s.drop k = r :: s.drop (k + 1) := by
  obtain ⟨hk, e⟩ := List.getElem?_eq_some_iff.1 h
  rw [List.drop_eq_getElem_cons hk, e]

theorem be {a b : Bool} (h : a = b) : @Eq Shape.bool.Val a b := h

theorem toNat_ofNat (k : Nat) : ((k : Int)).toNat = k := Int.toNat_natCast k

theorem ok_runs_Sane {s : Runs} (hl : s.length ≤ 100000000000) : FnE bs n_runs_Sane ((Shape.slice sRun).compsE s) .bool (· = decide (Sane s)) := by
  refine ok_of (e_runs_Sane s _) rfl ?_
  unfold c_runs_Sane
  refine loopP_of (fun z : Int × Int => ∃ k : Nat, z.2 = k ∧ k ≤ s.length ∧ (Sane s ↔ SaneFrom z.1 (s.drop k)) ∧ -1099511627778 ≤ z.1 ∧ z.1 ≤ Lim) (fun z => s.length - z.2.toNat) ?_ ⟨0, rfl, Nat.zero_le _, by simp [Sane], by decide, by decide⟩
  intro z A ⟨k, hk, hks, hiff, hlo, hhi⟩ back
  obtain ⟨last, i⟩ := z
  dsimp only [Shape.Val] at *
  subst hk
  unfold Lim at hhi
  refine cond_dec (fun h => ⟨⟨by omega, h⟩, ?_⟩) fun h => ?_
  · have hk : k < s.length := by omega
    have hg := List.getElem?_eq_getElem hk
    generalize s[k] = r at hg
    rw [toNat_ofNat, rd_of (s := sRun) hg, w64_of (n := last + 2) (by omega), w64_of (n := (k : Int) + 1) (by omega)]
    rw [drop_cons hg] at hiff
    simp only [SaneFrom, Lim] at hiff
    refine cond_dec (fun h1 => ?_) fun h1 => cond_dec (fun h2 => ?_) fun h2 => cond_dec (fun h3 => ?_) fun h3 => ?_
    · exact be (decide_eq_false fun q => by have := hiff.1 q; omega).symm
    · exact be (decide_eq_false fun q => by have := hiff.1 q; omega).symm
    · exact be (decide_eq_false fun q => by have := hiff.1 q; omega).symm
    · refine back (r.2, (k : Int) + 1) ⟨k + 1, by simp, hk, ?_, ?_, ?_⟩ ?_
      · rw [hiff]
        exact ⟨fun q => q.2.2.2, fun q => ⟨by omega, by omega, by omega, q⟩⟩
      · dsimp only; omega
      · dsimp only; unfold Lim; omega
      · dsimp only; omega
  · rw [List.drop_eq_nil_of_le (by omega)] at hiff
    exact be (decide_eq_true (hiff.2 trivial)).symm

theorem ok_runs_known {s : Runs} (hl : s.length ≤ 100000000000) (h : Sane s) : FnE bs n_runs_known ((Shape.slice sRun).compsE s) (.slice sRun) (· = s) := by
  refine ok_of (e_runs_known s _) rfl ?_
  unfold c_runs_known
  exact callP_eq (ok_runs_Sane hl) (cond_yes (decide_eq_true h) rfl)

theorem ok_sets_known {s : Runs} (hl : s.length ≤ 100000000000) (h : Sane s) : FnE bs n_sets_known ((Shape.slice sRun).compsE s) (.slice sRun) (· = s) := by
  refine ok_of (e_sets_known s _) rfl ?_
  unfold c_sets_known
  exact callP_eq (ok_runs_Sane hl) (cond_yes (decide_eq_true h) rfl)

/-! ### A number's place -/

def cmpS (a b : Int) : Int := if a < b then -1 else if b < a then 1 else 0

theorem cmpS_lt {a b : Int} : cmpS a b < 0 ↔ a < b := by
  unfold cmpS
  split
  · rename_i h; exact ⟨fun _ => h, fun _ => by decide⟩
  · rename_i h
    split
    · exact ⟨fun q => absurd q (by decide), fun q => absurd q h⟩
    · exact ⟨fun q => absurd q (by decide), fun q => absurd q h⟩

theorem ok_cmp_isNaN {a : Int} : FnE bs n_cmp_isNaN ((Shape.int .i64).compsE a) .bool (· = false) := ok_of (e_cmp_isNaN a _) rfl (be (by simp))

theorem ok_cmp_Compare {a b : Int} : FnE bs n_cmp_Compare ((Shape.pair (.int .i64) (.int .i64)).compsE (a, b)) (.int .i64) (· = cmpS a b) := by
  refine ok_of (e_cmp_Compare (a, b) _) rfl ?_
  unfold c_cmp_Compare cmpS
  refine callP_eq ok_cmp_isNaN (callP_eq ok_cmp_isNaN (cond_dec (fun h => ?_) fun h => cond_dec (fun h2 => ?_) fun h2 => ?_)) <;> dsimp only [Shape.Val] at *
  · rw [if_pos h]
  · rw [if_neg h, if_pos h2]
  · rw [if_neg h, if_neg h2]

theorem ok_runs_at_1 {r : Int × Int} {n : Int} : FnE bs n_runs_at_1 ((Shape.pair sRun (.int .i64)).compsE (r, n)) (.int .i64) (· = cmpS r.2 n) := by
  refine ok_of (e_runs_at_1 (r, n) _) rfl ?_
  unfold c_runs_at_1
  exact callP_eq ok_cmp_Compare rfl

theorem mid_eq {i j : Int} (h : 0 ≤ i ∧ 0 ≤ j ∧ i ≤ 1000000000000 ∧ j ≤ 1000000000000) : w64 (Int.fdiv (IntKind.wrap .u64 (w64 (i + j))) (2 ^ (1 : Int).toNat)) = (i + j) / 2 := by
  rw [w64_of (n := i + j) (by omega)]
  have e : IntKind.wrap .u64 (i + j) = i + j := by simp [IntKind.wrap, IntKind.bits, IntKind.signed]; omega
  rw [e, show (2 : Int) ^ (1 : Int).toNat = 2 from rfl, Int.fdiv_eq_ediv_of_nonneg _ (by omega)]
  exact w64_of (by omega)

/-- The place of the first run that ends at a number, or behind it. -/
def AtR (s : Runs) (n : Int) (k : Int) : Prop := 0 ≤ k ∧ k ≤ s.length ∧ ∀ (i : Nat) r, s[i]? = some r → ((i : Int) < k → r.2 < n) ∧ (k ≤ i → n ≤ r.2)

theorem sorted_hi {s : Runs} (h : Sane s) {i j : Nat} {r q : Int × Int} (hi : s[i]? = some r) (hj : s[j]? = some q) (hl : i ≤ j) : r.2 ≤ q.2 := by
  rcases Nat.lt_or_eq_of_le hl with e | e
  · have := SaneFrom.get h i j r q hi hj e
    have := (SaneFrom.lt h q (List.mem_of_getElem? hj)).2.1
    omega
  · subst e; rw [hi] at hj; cases hj; exact Int.le_refl _

theorem ok_slices_BinarySearchFunc {s : Runs} {n : Int} (hl : s.length ≤ 100000000000) (h : Sane s) : FnE bs n_slices_BinarySearchFunc ((Shape.pair (.slice sRun) (.pair (.int .i64) (.func (.pair sRun (.int .i64)) (.int .i64)))).compsE (s, n, fun x => some (cmpS x.1.2 x.2))) (.tup (.pair (.int .i64) .bool)) (fun r => AtR s n r.1) := by
  refine ok_of (e_slices_BinarySearchFunc (s, n, fun x => some (cmpS x.1.2 x.2)) _) rfl ?_
  unfold c_slices_BinarySearchFunc
  refine loopP_of (fun z : Int × Int => 0 ≤ z.1 ∧ z.1 ≤ z.2 ∧ z.2 ≤ s.length ∧ ∀ (i : Nat) r, s[i]? = some r → ((i : Int) < z.1 → r.2 < n) ∧ (z.2 ≤ i → n ≤ r.2)) (fun z => (z.2 - z.1).toNat) ?_ ⟨Int.le_refl _, by dsimp only; omega, by dsimp only; omega, fun i r hi => ⟨fun q => by dsimp only at q; omega, fun q => by have := (List.getElem?_eq_some_iff.1 hi).1; dsimp only at q; omega⟩⟩
  intro z A ⟨h0, h1, h2, h3⟩ back
  obtain ⟨i, j⟩ := z
  dsimp only [Shape.Val] at *
  refine cond_dec (fun hij => ⟨by decide, ?_⟩) fun hij => ?_
  · rw [mid_eq (by omega)]
    have hm : ((i + j) / 2).toNat < s.length := by omega
    have hg := List.getElem?_eq_getElem hm
    generalize s[((i + j) / 2).toNat] = r at hg
    refine ⟨⟨by omega, by omega⟩, gcall_eq rfl ?_⟩
    rw [rd_of (s := sRun) hg]
    dsimp only
    refine cond_dec (fun hc => ?_) fun hc => ?_
    · have hc : r.2 < n := cmpS_lt.1 hc
      rw [w64_of (n := (i + j) / 2 + 1) (by omega)]
      refine back ((i + j) / 2 + 1, j) ⟨by dsimp only; omega, by dsimp only; omega, by dsimp only; omega, fun t q ht => ⟨fun hlt => ?_, (h3 t q ht).2⟩⟩ (by dsimp only; omega)
      dsimp only at hlt
      have := sorted_hi h ht hg (by omega)
      omega
    · have hc : ¬ r.2 < n := fun q => hc (cmpS_lt.2 q)
      refine back (i, (i + j) / 2) ⟨by dsimp only; omega, by dsimp only; omega, by dsimp only; omega, fun t q ht => ⟨(h3 t q ht).1, fun hge => ?_⟩⟩ (by dsimp only; omega)
      dsimp only at hge
      have := sorted_hi h hg ht (by omega)
      omega
  · have hij : j = i := by omega
    subst hij
    have fin : AtR s n j := ⟨h0, h2, h3⟩
    exact cond_dec (fun hlt => ⟨⟨by omega, hlt⟩, gcall_eq rfl fin⟩) fun _ => fin

theorem ok_runs_at {s : Runs} {n : Int} (hl : s.length ≤ 100000000000) (h : Sane s) : FnE bs n_runs_at ((Shape.pair (.slice sRun) (.int .i64)).compsE (s, n)) (.int .i64) (AtR s n) := by
  refine ok_of (e_runs_at (s, n) _) rfl ?_
  unfold c_runs_at
  refine ⟨fun x => some (cmpS x.1.2 x.2), ⟨(ok_runs_at_1 (r := (0, 0)) (n := 0)).1, fun x r hx => by cases hx; exact ok_runs_at_1⟩, ?_⟩
  exact callP_of (ok_slices_BinarySearchFunc hl h) fun r hr => hr

/-- The least number from one on. -/
def NextR (s : Runs) (n : Int) (r : Int × Bool) : Prop := (r = (0, false) ∧ ∀ m, mem s m → m < n) ∨ (r.2 = true ∧ mem s r.1 ∧ n ≤ r.1 ∧ ∀ m, mem s m → n ≤ m → r.1 ≤ m)

theorem ok_runs_Next_gen {s0 s : Runs} {n : Int} (hk : FnE bs n_runs_known ((Shape.slice sRun).compsE s0) (.slice sRun) (· = s)) (hl : s.length ≤ 100000000000) (h : Sane s) : FnE bs n_runs_Next ((Shape.pair (.slice sRun) (.int .i64)).compsE (s0, n)) (.tup (.pair (.int .i64) .bool)) (NextR s n) := by
  refine ok_of (e_runs_Next (s0, n) _) rfl ?_
  unfold c_runs_Next
  refine callP_eq hk (callP_of (ok_runs_at hl h) fun k hk => ?_)
  obtain ⟨k0, k1, k2⟩ := hk
  dsimp only [Shape.Val] at *
  refine cond_dec (fun e => ?_) fun e => ⟨⟨k0, ?_⟩, ?_⟩
  · refine .inl ⟨rfl, fun m ⟨q, hq, hm⟩ => ?_⟩
    obtain ⟨i, hi⟩ := List.getElem?_of_mem hq
    have := (List.getElem?_eq_some_iff.1 hi).1
    have := (k2 i q hi).1 (by omega)
    omega
  · omega
  · have hk : (k : Int).toNat < s.length := by omega
    have hg := List.getElem?_eq_getElem hk
    generalize s[(k : Int).toNat] = r at hg
    have hr := (k2 _ r hg).2 (by omega)
    have hb := (Sane.bounds h r (List.mem_of_getElem? hg))
    rw [rd_of (s := sRun) hg]
    have hmax : maxI n r.1 = max n r.1 := by unfold maxI; split <;> omega
    refine .inr ⟨rfl, ⟨r, List.mem_of_getElem? hg, ?_⟩, ?_, fun m ⟨q, hq, hm⟩ hnm => ?_⟩ <;> dsimp only <;> rw [hmax]
    · omega
    · omega
    · obtain ⟨i, hi⟩ := List.getElem?_of_mem hq
      have hik : ¬ (i : Int) < k := fun hl => by have := (k2 i q hi).1 hl; omega
      rcases Nat.lt_or_eq_of_le (show (k : Int).toNat ≤ i by omega) with e | e
      · have := SaneFrom.get h _ _ _ _ hg hi e
        omega
      · subst e; rw [hg] at hi; cases hi; omega

theorem ok_runs_Has_gen {s0 s : Runs} {n : Int} (hk : FnE bs n_runs_known ((Shape.slice sRun).compsE s0) (.slice sRun) (· = s)) (hl : s.length ≤ 100000000000) (h : Sane s) : FnE bs n_runs_Has ((Shape.pair (.slice sRun) (.int .i64)).compsE (s0, n)) .bool (· = decide (mem s n)) := by
  refine ok_of (e_runs_Has (s0, n) _) rfl ?_
  unfold c_runs_Has
  refine callP_of (ok_runs_Next_gen hk hl h) fun r hr => ?_
  rcases hr with ⟨rfl, hr⟩ | ⟨h1, h2, h3, h4⟩
  · exact be (decide_eq_false fun hm => by have := hr n hm; omega).symm
  · refine cond_yes h1 (be ?_)
    rw [decide_eq_decide]
    exact ⟨fun e => by rw [← show r.1 = n from e]; exact h2, fun hm => by have := h4 n hm (Int.le_refl _); exact ie (by dsimp only [Shape.Val] at *; omega)⟩

theorem ok_runs_Has {s : Runs} {n : Int} (hl : s.length ≤ 100000000000) (h : Sane s) : FnE bs n_runs_Has ((Shape.pair (.slice sRun) (.int .i64)).compsE (s, n)) .bool (· = decide (mem s n)) := ok_runs_Has_gen (ok_runs_known hl h) hl h
end Go.Proofs.YtgeefhjlfdidmaaGreatDoor.V


/- What two sets have in common; leaves: what the program's functions answer. No condition of its own. -/
namespace Go.Proofs.YtgeefhjlfdidmaaGreatDoor.V
open Go
set_option linter.unusedVariables false
set_option linter.unusedSimpArgs false

theorem meet_step1 {x y : Int × Int} {A B : Runs} {a b : Int} (hA : SaneFrom a (x :: A)) (hB : SaneFrom b (y :: B)) (h : x.2 < y.2) (n : Int) : (mem (x :: A) n ∧ mem (y :: B) n) ↔ ((x.1 ≤ n ∧ n ≤ x.2) ∧ (y.1 ≤ n ∧ n ≤ y.2)) ∨ (mem A n ∧ mem (y :: B) n) := by
  constructor
  · rintro ⟨h1, h2⟩
    rcases mem_cons.1 h1 with p | p
    · rcases mem_cons.1 h2 with q | q
      · exact .inl ⟨p, q⟩
      · have := SaneFrom.mem_gt hB.2.2.2 q; omega
    · exact .inr ⟨p, h2⟩
  · rintro (⟨p, q⟩ | ⟨p, q⟩)
    · exact ⟨mem_cons.2 (.inl p), mem_cons.2 (.inl q)⟩
    · exact ⟨mem_cons.2 (.inr p), q⟩

theorem meet_step2 {x y : Int × Int} {A B : Runs} {a b : Int} (hA : SaneFrom a (x :: A)) (hB : SaneFrom b (y :: B)) (h : ¬ x.2 < y.2) (n : Int) : (mem (x :: A) n ∧ mem (y :: B) n) ↔ ((x.1 ≤ n ∧ n ≤ x.2) ∧ (y.1 ≤ n ∧ n ≤ y.2)) ∨ (mem (x :: A) n ∧ mem B n) := by
  constructor
  · rintro ⟨h1, h2⟩
    rcases mem_cons.1 h2 with q | q
    · rcases mem_cons.1 h1 with p | p
      · exact .inl ⟨p, q⟩
      · have := SaneFrom.mem_gt hA.2.2.2 p; omega
    · exact .inr ⟨h1, q⟩
  · rintro (⟨p, q⟩ | ⟨p, q⟩)
    · exact ⟨mem_cons.2 (.inl p), mem_cons.2 (.inl q)⟩
    · exact ⟨p, mem_cons.2 (.inr q)⟩

/-- What two sets have in common. -/
def MeetR (a b out : Runs) : Prop := Sane out ∧ out.length ≤ a.length + b.length ∧ ∀ n, mem out n ↔ mem a n ∧ mem b n

theorem SaneFrom.drop : ∀ {s : Runs} {a : Int} (k : Nat), SaneFrom a s → ∃ b, SaneFrom b (s.drop k)
  | s, a, 0, h => ⟨a, h⟩
  | [], a, k + 1, h => ⟨a, trivial⟩
  | x :: s, a, k + 1, h => SaneFrom.drop k h.2.2.2

theorem ok_sets_Meet_gen {a0 b0 a b : Runs} (hka : FnE bs n_sets_known ((Shape.slice sRun).compsE a0) (.slice sRun) (· = a)) (hkb : FnE bs n_sets_known ((Shape.slice sRun).compsE b0) (.slice sRun) (· = b)) (hla : a.length ≤ 100000000000) (hlb : b.length ≤ 100000000000) (ha : Sane a) (hb : Sane b) :
    FnE bs n_sets_Meet ((Shape.pair (.slice sRun) (.slice sRun)).compsE (a0, b0)) (.slice sRun) (MeetR a b) := by
  refine ok_of (e_sets_Meet (a0, b0) _) rfl ?_
  unfold c_sets_Meet
  refine callP_eq hka (callP_eq hkb ?_)
  refine loopP_of (fun z : Unit × Int × Int × Runs => ∃ i k : Nat, z.2.1 = i ∧ z.2.2.1 = k ∧ i ≤ a.length ∧ k ≤ b.length ∧ z.2.2.2.length ≤ i + k ∧ Sane z.2.2.2 ∧
      (∀ n, (mem a n ∧ mem b n) ↔ mem z.2.2.2 n ∨ (mem (a.drop i) n ∧ mem (b.drop k) n)) ∧ (∀ q ∈ z.2.2.2, ∀ x ∈ a.drop i, ∀ y ∈ b.drop k, q.2 + 2 ≤ max x.1 y.1))
    (fun z => a.length - z.2.1.toNat + (b.length - z.2.2.1.toNat)) ?_ ⟨0, 0, rfl, rfl, Nat.zero_le _, Nat.zero_le _, Nat.le_refl _, trivial, fun n => ⟨fun h => .inr (by simpa using h), fun h => h.elim (fun q => (mem_nil q).elim) fun q => by simpa using q⟩, fun q hq => by cases hq⟩
  intro z A ⟨i, k, e1, e2, hi, hk, hlen, hs, hm, hap⟩ back
  obtain ⟨u, zi, zk, out⟩ := z
  dsimp only at *
  subst e1; subst e2
  have fin : (¬ (i < a.length) ∨ ¬ (k < b.length)) → MeetR a b out := fun h => ⟨hs, by omega, fun n => by
    rw [hm n]
    constructor
    · exact .inl
    · rintro (q | ⟨q1, q2⟩)
      · exact q
      · rcases h with h | h
        · rw [List.drop_eq_nil_of_le (by omega)] at q1; exact (mem_nil q1).elim
        · rw [List.drop_eq_nil_of_le (by omega)] at q2; exact (mem_nil q2).elim⟩
  refine cond_dec (fun h1 => cond_dec (fun h2 => ?_) fun h2 => fin (.inr (by dsimp only [Shape.Val] at *; omega))) fun h1 => fin (.inl (by dsimp only [Shape.Val] at *; omega))
  dsimp only [Shape.Val] at h1 h2
  have hi' : i < a.length := by omega
  have hk' : k < b.length := by omega
  have hga := List.getElem?_eq_getElem hi'
  have hgb := List.getElem?_eq_getElem hk'
  generalize a[i] = x at hga
  generalize b[k] = y at hgb
  have ea := drop_cons hga
  have eb := drop_cons hgb
  obtain ⟨ca, hca⟩ := SaneFrom.drop i ha
  obtain ⟨cb, hcb⟩ := SaneFrom.drop k hb
  rw [ea] at hca
  rw [eb] at hcb
  have bx := Sane.bounds ha x (List.mem_of_getElem? hga)
  have by' := Sane.bounds hb y (List.mem_of_getElem? hgb)
  rw [toNat_ofNat, toNat_ofNat, rd_of (s := sRun) hga, rd_of (s := sRun) hgb]
  have hmax : maxI x.1 y.1 = max x.1 y.1 := by unfold maxI; split <;> omega
  have hmin : minI x.2 y.2 = min x.2 y.2 := by unfold minI; split <;> omega
  rw [hmax, hmin, w64_of (n := (i : Int) + 1) (by omega), w64_of (n := (k : Int) + 1) (by omega)]
  rw [ea, eb] at hm hap
  -- the next state
  have next1 : ∀ out' : Runs, x.2 < y.2 → out'.length ≤ i + k + 1 → Sane out' → (∀ n, mem out' n ↔ mem out n ∨ ((x.1 ≤ n ∧ n ≤ x.2) ∧ (y.1 ≤ n ∧ n ≤ y.2))) → (∀ q ∈ out', q ∈ out ∨ q.2 ≤ x.2) → A ((), (i : Int) + 1, (k : Int), out') := by
    intro out' hlt hl' hs' hm' hq'
    refine back ((), (i : Int) + 1, (k : Int), out') ⟨i + 1, k, by simp, rfl, hi', hk, by dsimp only; omega, hs', fun n => ?_, fun q hq p hp r hr => ?_⟩ (by dsimp only; omega)
    · dsimp only
      rw [hm n, meet_step1 hca hcb hlt n, hm' n, eb]
      constructor
      · rintro (h | h | h)
        · exact .inl (.inl h)
        · exact .inl (.inr h)
        · exact .inr h
      · rintro ((h | h) | h)
        · exact .inl h
        · exact .inr (.inl h)
        · exact .inr (.inr h)
    · dsimp only at hq hp hr
      rw [eb] at hr
      rcases hq' q hq with h | h
      · exact hap q h p (List.mem_cons_of_mem _ hp) r hr
      · have := (SaneFrom.lt hca.2.2.2 p hp).1
        omega
  have next2 : ∀ out' : Runs, ¬ x.2 < y.2 → out'.length ≤ i + k + 1 → Sane out' → (∀ n, mem out' n ↔ mem out n ∨ ((x.1 ≤ n ∧ n ≤ x.2) ∧ (y.1 ≤ n ∧ n ≤ y.2))) → (∀ q ∈ out', q ∈ out ∨ q.2 ≤ y.2) → A ((), (i : Int), (k : Int) + 1, out') := by
    intro out' hlt hl' hs' hm' hq'
    refine back ((), (i : Int), (k : Int) + 1, out') ⟨i, k + 1, rfl, by simp, hi, hk', by dsimp only; omega, hs', fun n => ?_, fun q hq p hp r hr => ?_⟩ (by dsimp only; omega)
    · dsimp only
      rw [hm n, meet_step2 hca hcb hlt n, hm' n, ea]
      constructor
      · rintro (h | h | h)
        · exact .inl (.inl h)
        · exact .inl (.inr h)
        · exact .inr h
      · rintro ((h | h) | h)
        · exact .inl h
        · exact .inr (.inl h)
        · exact .inr (.inr h)
    · dsimp only at hq hp hr
      rw [ea] at hp
      rcases hq' q hq with h | h
      · exact hap q h p hp r (List.mem_cons_of_mem _ hr)
      · have := (SaneFrom.lt hcb.2.2.2 r hr).1
        omega
  refine ⟨⟨by omega, h1⟩, ⟨by omega, h2⟩, ⟨by omega, h1⟩, ⟨by omega, h2⟩, ?_⟩
  refine cond_dec (fun h3 => ⟨?_, ⟨by omega, h1⟩, ⟨by omega, h2⟩, ?_⟩) fun h3 => ⟨⟨by omega, h1⟩, ⟨by omega, h2⟩, ?_⟩
  · simp only [List.length_cons, List.length_nil]
    omega
  · have hs' : Sane (out ++ [(max x.1 y.1, min x.2 y.2)]) := SaneFrom.append hs h3 (by dsimp only; omega) (by dsimp only; unfold Lim at *; omega) fun q hq => hap q hq x (List.mem_cons_self ..) y (List.mem_cons_self ..)
    have hm' : ∀ n, mem (out ++ [(max x.1 y.1, min x.2 y.2)]) n ↔ mem out n ∨ ((x.1 ≤ n ∧ n ≤ x.2) ∧ (y.1 ≤ n ∧ n ≤ y.2)) := fun n => by
      rw [mem_append, mem_cons]
      constructor
      · rintro (h | h | h)
        · exact .inl h
        · exact .inr (by dsimp only at h; omega)
        · exact (mem_nil h).elim
      · rintro (h | h)
        · exact .inl h
        · exact .inr (.inl (by dsimp only; omega))
    have hq' : ∀ q ∈ out ++ [(max x.1 y.1, min x.2 y.2)], q ∈ out ∨ (q.2 ≤ x.2 ∧ q.2 ≤ y.2) := fun q hq => by
      rcases List.mem_append.1 hq with h | h
      · exact .inl h
      · rw [List.mem_singleton] at h; subst h; exact .inr (by dsimp only; omega)
    have hl' : (out ++ [(max x.1 y.1, min x.2 y.2)]).length ≤ i + k + 1 := by simp; omega
    exact cond_dec (fun h4 => next1 _ h4 hl' hs' hm' fun q hq => (hq' q hq).imp id (·.1)) fun h4 => next2 _ h4 hl' hs' hm' fun q hq => (hq' q hq).imp id (·.2)
  · have hm' : ∀ n, mem out n ↔ mem out n ∨ ((x.1 ≤ n ∧ n ≤ x.2) ∧ (y.1 ≤ n ∧ n ≤ y.2)) := fun n => ⟨.inl, fun h => h.elim id fun q => by omega⟩
    exact cond_dec (fun h4 => next1 _ h4 (by omega) hs hm' fun q hq => .inl hq) fun h4 => next2 _ h4 (by omega) hs hm' fun q hq => .inl hq

theorem ok_sets_Meet {a b : Runs} (hla : a.length ≤ 100000000000) (hlb : b.length ≤ 100000000000) (ha : Sane a) (hb : Sane b) : FnE bs n_sets_Meet ((Shape.pair (.slice sRun) (.slice sRun)).compsE (a, b)) (.slice sRun) (MeetR a b) :=
  ok_sets_Meet_gen (ok_sets_known hla ha) (ok_sets_known hlb hb) hla hlb ha hb
end Go.Proofs.YtgeefhjlfdidmaaGreatDoor.V


/- Leaves: what the program's functions answer. No condition of its own. -/
namespace Go.Proofs.YtgeefhjlfdidmaaGreatDoor.V
open Go
set_option linter.unusedVariables false
set_option linter.unusedSimpArgs false

theorem ok_sets_Clip {s : Runs} {lo hi : Int} (hl : s.length ≤ 100000000000) (h : Sane s) (hb : -Lim ≤ lo ∧ lo ≤ hi ∧ hi ≤ Lim) : FnE bs n_sets_Clip ((Shape.pair (.slice sRun) (.pair (.int .i64) (.int .i64))).compsE (s, lo, hi)) (.slice sRun) (· = clipF s lo hi) := by
  refine ok_of (e_sets_Clip (s, lo, hi) _) rfl ?_
  unfold c_sets_Clip
  have hs : Sane [(lo, hi)] := ⟨hb.2.1, by unfold Lim at hb; dsimp only; omega, hb.2.2, trivial⟩
  refine callP_of (ok_sets_Meet (a := s) (b := [(lo, hi)]) hl (by simp) h hs) fun r hr => ?_
  refine sane_ext hr.1 (sane_clip h) fun n => ?_
  rw [hr.2.2 n, mem_clip, mem_cons]
  constructor
  · rintro ⟨h1, h2 | h2⟩
    · exact ⟨h1, h2⟩
    · exact (mem_nil h2).elim
  · rintro ⟨h1, h2⟩; exact ⟨h1, .inl h2⟩

theorem rd_lo {s : Runs} (h : s ≠ []) : (rd sRun s (0 : Int).toNat).1 = loF s := by
  obtain ⟨r, h1, h2⟩ := loF_get h
  rw [show ((0 : Int).toNat) = 0 from rfl, rd_of (s := sRun) h1, h2]

theorem rd_hi {s : Runs} (h : s ≠ []) (hl : s.length ≤ 100000000000) : (rd sRun s (w64 ((s.length : Int) - 1)).toNat).2 = hiF s := by
  obtain ⟨r, h1, h2⟩ := hiF_get h
  have hp := List.length_pos_iff.2 h
  rw [w64_of (n := (s.length : Int) - 1) (by omega), show ((s.length : Int) - 1).toNat = s.length - 1 by omega, rd_of (s := sRun) h1, h2]

theorem last_in {s : Runs} (h : s ≠ []) (hl : s.length ≤ 100000000000) : (0 : Int) ≤ w64 ((s.length : Int) - 1) ∧ w64 ((s.length : Int) - 1) < (s.length : Int) := by
  have hp := List.length_pos_iff.2 h
  rw [w64_of (n := (s.length : Int) - 1) (by omega)]
  omega

theorem first_in {s : Runs} (h : s ≠ []) : (0 : Int) ≤ 0 ∧ (0 : Int) < (s.length : Int) := by
  have hp := List.length_pos_iff.2 h
  omega

theorem len_zero {s : Runs} : ((s.length : Int) = 0) ↔ s = [] := by
  rw [← List.length_eq_zero_iff]; omega

theorem ok_leaf_within {s : Runs} {m : Int} (hl : s.length ≤ 100000000000) : FnE bs n_leaf_within ((Shape.pair (.slice sRun) (.int .i64)).compsE (s, m)) .bool (· = decide (Within s m)) := by
  refine ok_of (e_leaf_within (s, m) _) rfl ?_
  unfold c_leaf_within Within
  refine callP_eq (ok_runs_Sane hl) (cond_dec (fun h => cond_dec (fun h2 => ?_) fun h2 => ?_) fun h => ?_)
  · have h2 : s = [] := len_zero.1 h2
    have h : Sane s := h
    exact be (decide_eq_true ⟨h, .inl h2⟩).symm
  · have h2 : ¬ s = [] := fun e => h2 (len_zero.2 e)
    refine ⟨first_in h2, ?_⟩
    dsimp only
    rw [rd_lo h2, rd_hi h2 hl]
    refine cond_dec (fun h3 => ⟨last_in h2 hl, be ?_⟩) fun h3 => be ?_
    · have h3 : 0 ≤ loF s := h3
      simp [h, h2, h3]
    · have h3 : ¬ 0 ≤ loF s := h3
      simp [h2, h3]
  · exact be (by simp [h])

theorem ok_leaf_Sane {f : Leaf} (hla : f.2.2.1.length ≤ 100000000000) (hlb : f.2.2.2.length ≤ 100000000000) : FnE bs n_leaf_Sane (sApiLeaf.compsE f) .bool (· = decide (LeafSane f)) := by
  obtain ⟨sp, u, a, b⟩ := f
  dsimp only at hla hlb
  refine ok_of (e_leaf_Sane (sp, u, a, b) _) rfl ?_
  unfold c_leaf_Sane LeafSane
  dsimp only
  cases sp
  · refine cond_no rfl (cond_dec (fun h1 => cond_dec (fun h2 => callP_eq ok_unit_Count ?_) fun h2 => be ?_) fun h1 => be ?_)
    · have := VCal.ucount_pos u
      rw [w64_of (by omega)]
      refine callP_eq (ok_leaf_within hla) (cond_dec (fun h3 => be ?_) fun h3 => be ?_)
      · have h1 : 0 ≤ u := h1
        have h2 : u ≤ 5 := h2
        refine decide_eq_decide.2 ⟨fun q => ?_, fun q => ?_⟩
        · rw [if_neg (by decide)]; exact ⟨⟨h1, h2⟩, h3, len_zero.1 q⟩
        · rw [if_neg (by decide)] at q; exact len_zero.2 q.2.2
      · simp [h3]
    · have h2 : ¬ u ≤ 5 := h2
      simp [h2]
    · have h1 : ¬ 0 ≤ u := h1
      simp [h1]
  · refine cond_yes rfl (cond_dec (fun h1 => callP_eq (ok_leaf_within hla) (cond_dec (fun h2 => callP_eq (ok_leaf_within hlb) (be ?_)) fun h2 => be ?_)) fun h1 => be ?_)
    · have h1 : u = 0 := h1
      simp [h1, h2]
    · simp [h2]
    · have h1 : ¬ u = 0 := h1
      simp [h1]

theorem ok_leaf_of {f : Leaf} (hla : f.2.2.1.length ≤ 100000000000) (hlb : f.2.2.2.length ≤ 100000000000) : FnE bs n_leaf_of (sApiLeaf.compsE f) sLeafFamily (· = ofF f) := by
  obtain ⟨sp, u, a, b⟩ := f
  dsimp only at hla hlb
  refine ok_of (e_leaf_of (sp, u, a, b) _) rfl ?_
  unfold c_leaf_of ofF
  dsimp only
  refine callP_eq (ok_leaf_Sane (f := (sp, u, a, b)) hla hlb) (cond_not (fun h => ?_) fun h => cond_dec (fun h1 => ?_) fun h1 => ?_)
  · rw [if_pos (.inl (by simpa using h))]
  · rw [if_pos (.inr (len_zero.1 h1))]
  · have h : LeafSane (sp, u, a, b) := by simpa using h
    have h1 : ¬ a = [] := fun e => h1 (len_zero.2 e)
    rw [if_neg (by simp [h, h1])]
    cases sp
    · exact cond_yes rfl (by rw [if_pos rfl])
    · refine cond_no rfl (cond_dec (fun h2 => ?_) fun h2 => ⟨first_in h1, ?_⟩)
      · rw [if_neg (by simp), if_pos (.inl (len_zero.1 h2))]
      · have h2 : ¬ b = [] := fun e => h2 (len_zero.2 e)
        have hs := h
        unfold LeafSane at hs
        dsimp only at hs
        rw [if_pos rfl] at hs
        refine ⟨last_in h2 hlb, ?_⟩
        rw [rd_lo h1, rd_hi h2 hlb]
        refine cond_dec (fun h3 => ?_) fun h3 => ⟨last_in h2 hlb, first_in h1, ?_⟩
        · have h3 : hiF b < loF a := h3
          rw [if_neg (by simp), if_pos (.inr h3)]
        · have h3 : ¬ hiF b < loF a := h3
          have b1 := Within.bounds hs.2.1 (mem_lo hs.2.1.1 h1)
          have b2 := Within.bounds hs.2.2 (mem_hi hs.2.2.1 h2)
          refine callP_eq (ok_sets_Clip hla hs.2.1.1 (by unfold Lim; omega)) (callP_eq (ok_sets_Clip hlb hs.2.2.1 (by unfold Lim; omega)) ?_)
          rw [if_neg (by simp), if_neg (by simp [h2, h3])]

/-- A leaf without what is in no pair. -/
def tidyF (f : Leaf) : Leaf := match ofF f with
  | none => (false, 0, [], [])
  | some (.inl (u, s)) => (false, u, s, [])
  | some (.inr (a, b)) => (true, 0, a, b)

theorem ok_leaf_Tidy {f : Leaf} (hla : f.2.2.1.length ≤ 100000000000) (hlb : f.2.2.2.length ≤ 100000000000) : FnE bs n_leaf_Tidy (sApiLeaf.compsE f) sApiLeaf (· = tidyF f) := by
  obtain ⟨sp, u, a, b⟩ := f
  refine ok_of (e_leaf_Tidy (sp, u, a, b) _) rfl ?_
  unfold c_leaf_Tidy tidyF
  refine callP_eq (ok_leaf_of hla hlb) ?_
  dsimp only
  generalize ofF (sp, u, a, b) = x
  rcases x with _ | ⟨y⟩ | ⟨y⟩ <;> rfl

theorem ok_leaf_units_pair {u i : Int} {s : Runs} : FnE bs n_leaf_units_pair ((Shape.pair sLeafUnits (.int .i64)).compsE ((u, s), i)) sRun (· = ((firstS u i).1, (lastS u i).1)) := by
  refine ok_of (e_leaf_units_pair ((u, s), i) _) rfl ?_
  unfold c_leaf_units_pair
  exact callP_eq ok_unit_First (callP_eq ok_unit_Last rfl)

end Go.Proofs.YtgeefhjlfdidmaaGreatDoor.V


/- Sorting runs: what the program's functions answer. No condition of its own. -/
namespace Go.Proofs.YtgeefhjlfdidmaaGreatDoor.V
open Go
set_option linter.unusedVariables false
set_option linter.unusedSimpArgs false

theorem okM_of {B : Base} {g : Cfg} {f : FuncId} {args : List EV} {e : Ent} {out : Shape} {R : out.Val → (Slot.n e).sh.Val → Prop} {C : Prop} (eq : g.fnM f args e out R = C) (hb : g.toBase = B) (H : HanOK g) (h : C) : FnM B f args e out R := by rw [← hb]; exact fnM_sound H (eq.mpr h)

theorem callMP_of {c : Base} {f : FuncId} {n : Nat} {e : Ent} {w : EV} {ins out : Shape} {x : ins.Val} {K : out.Val → (Slot.n e).sh.Val → Prop} {R : out.Val → (Slot.n e).sh.Val → Prop} (h : FnM c f (insAt n w (ins.compsE x)) e out R) (k : ∀ r y, R r y → K r y) : callMP c f n e w ins out x K := ⟨R, h, k⟩

theorem join_of {S : Type} {F : (S → Prop) → Prop} {K : S → Prop} (I : S → Prop) (hF : ∀ J : S → Prop, (∀ z, I z → J z) → F J) (hK : ∀ z, I z → K z) : joinP F K := hF K hK

/-- What compares runs: where they begin. -/
def G : (PR × PR) → Option Int := fun p => some (cmpS p.1.1 p.2.1)

theorem cond_cmp {a b : Int} {A B : Prop} (h : a < b → A) (k : ¬ a < b → B) : cond (decide ((cmpS a b : Int) < (0 : Int))) A B :=
  cond_dec (fun q => h (cmpS_lt.1 q)) (fun q => k fun r => q (cmpS_lt.2 r))

theorem cond_ncmp {a b : Int} {A B : Prop} (h : ¬ a < b → A) (k : a < b → B) : cond (!decide ((cmpS a b : Int) < (0 : Int))) A B :=
  cond_not (fun q => h fun r => by have := cmpS_lt.2 r; simp at q; omega) (fun q => k (cmpS_lt.1 (of_decide_eq_true q)))

theorem w_add {a b : Nat} (h : a + b < 4611686018427387904) : w64 ((a : Int) + (b : Int)) = ((a + b : Nat) : Int) := by rw [w64_of (by omega)]; omega
theorem w_succ {a : Nat} (h : a < 4611686018427387904) : w64 ((a : Int) + 1) = ((a + 1 : Nat) : Int) := by rw [w64_of (by omega)]; omega
theorem w_pred {a : Nat} (h : a < 4611686018427387904) (h1 : 1 ≤ a) : w64 ((a : Int) - 1) = ((a - 1 : Nat) : Int) := by rw [w64_of (by omega)]; omega

theorem ok_insertionSort {xs : List PR} {a b : Nat} (hb : b ≤ xs.length) (hl : xs.length < 1099511627776) (ha : a < 1099511627776) :
    FnM bs n_slices_insertionSortCmpFunc (insAt 0 (.row 0 0) ((Shape.pair (.int .i64) (.pair (.int .i64) (.func (.pair sRun sRun) (.int .i64)))).compsE ((a : Int), (b : Int), G))) (b_slices_insertionSortCmpFunc xs) (.tup .unit) (fun _ ys => Sw a b xs ys ∧ Srt ys a b) := by
  refine okM_of (e_slices_insertionSortCmpFunc xs ((a : Int), (b : Int), G) _) rfl (HanOK.none rfl rfl) ?_
  unfold c_slices_insertionSortCmpFunc
  rw [show w64 (((a : Int), (b : Int), G).1 + (1 : Int)) = ((a + 1 : Nat) : Int) from w_succ (by omega)]
  refine loopP_of (fun z : Int × List PR => ∃ i : Nat, z.1 = i ∧ a + 1 ≤ i ∧ (i ≤ b ∨ i = a + 1) ∧ Sw a b xs z.2 ∧ Srt z.2 a i) (fun z => b - z.1.toNat) ?_ ⟨a + 1, rfl, Nat.le_refl _, .inr rfl, .refl, Srt.small (by omega)⟩
  rintro ⟨_, ys⟩ A ⟨i, e1, h1, h2, h3, h4⟩ back
  dsimp only at e1 h3 h4
  subst e1
  refine cond_dec (fun hlt => ?_) fun hge => ?_
  · have hlt : i < b := by have : (i : Int) < b := hlt; omega
    refine loopP_of (fun z : Int × List PR => ∃ j : Nat, z.1 = j ∧ a ≤ j ∧ j ≤ i ∧ Sw a b xs z.2 ∧ (∀ p q, a ≤ p → p < q → q ≤ i → q ≠ j → ky z.2 p ≤ ky z.2 q)) (fun z => z.1.toNat) ?_ ⟨i, rfl, by omega, Nat.le_refl _, h3, fun p q q1 q2 q3 q4 => h4 p q q1 q2 (by omega)⟩
    rintro ⟨_, zs⟩ A2 ⟨j, e1, g1, g2, g3, g4⟩ back2
    dsimp only at e1 g3 g4
    subst e1
    have hlen := g3.length
    have done : (j = a ∨ ky zs (j - 1) ≤ ky zs j) → A (w64 ((i : Int) + 1), zs) := fun hj => by
      rw [w_succ (by omega)]
      refine back (((i + 1 : Nat) : Int), zs) ⟨i + 1, rfl, by omega, by omega, g3, fun p q q1 q2 q3 => ?_⟩ (by dsimp only; omega)
      by_cases hq : q = j
      · subst hq
        rcases hj with hj | hj
        · omega
        · rcases Nat.lt_or_eq_of_le (show p ≤ q - 1 by omega) with e | e
          · exact Int.le_trans (g4 p (q - 1) q1 e (by omega) (by omega)) hj
          · rw [e]; exact hj
      · exact g4 p q q1 q2 (by omega) hq
    refine cond_dec (fun hja => ?_) fun hja => ?_
    · have hja : a < j := by have : (a : Int) < j := hja; omega
      rw [show w64 ((((j : Int), zs) : Int × List PR).1 - (1 : Int)) = ((j - 1 : Nat) : Int) from w_pred (by omega) (by omega)]
      refine ⟨⟨by dsimp only; omega, by dsimp only; omega⟩, ⟨by omega, by dsimp only; omega⟩, gcall_eq rfl ?_⟩
      refine cond_cmp (fun hc => ?_) fun hc => ?_
      · refine ⟨⟨by omega, by dsimp only; omega⟩, ⟨by dsimp only; omega, by dsimp only; omega⟩, ⟨by dsimp only; omega, by dsimp only; omega⟩, ⟨by omega, by dsimp only; rw [List.length_set]; omega⟩, ?_⟩
        have hc : ky zs j < ky zs (j - 1) := hc
        refine back2 (((j - 1 : Nat) : Int), sw zs j (j - 1)) ⟨j - 1, rfl, by omega, by omega, .step j (j - 1) g3 (by omega) (by omega) (by omega) (by omega) hb, fun p q q1 q2 q3 q4 => ?_⟩ (by dsimp only; omega)
        rw [ky_sw (by omega) (by omega), ky_sw (by omega) (by omega)]
        have hs := fun p q q1 q2 q3 q4 => g4 p q q1 q2 q3 q4
        by_cases hqj : q = j
        · subst hqj
          rw [if_neg q4, if_pos rfl]
          by_cases hp : p = q - 1
          · subst hp; rw [if_pos rfl]; omega
          · rw [if_neg hp, if_neg (by omega)]
            exact hs p (q - 1) q1 (by omega) (by omega) (by omega)
        · rw [if_neg q4, if_neg hqj]
          by_cases hp : p = j - 1
          · subst hp
            rw [if_pos rfl]
            exact hs j q (by omega) (by omega) q3 hqj
          · rw [if_neg hp]
            by_cases hp2 : p = j
            · subst hp2; rw [if_pos rfl]; exact hs (p - 1) q (by omega) (by omega) q3 hqj
            · rw [if_neg hp2]; exact hs p q q1 q2 q3 hqj
      · exact done (.inr (by have hc : ¬ ky zs j < ky zs (j - 1) := hc; omega))
    · exact done (.inl (by have hja : ¬ (a : Int) < j := hja; omega))
  · have hge : ¬ (i : Int) < b := hge
    refine ⟨h3, ?_⟩
    rcases h2 with h2 | h2
    · have : i = b := by omega
      subst this; exact h4
    · exact Srt.small (by omega)

theorem w_mul2 {a : Nat} (h : a < 2305843009213693952) : w64 ((2 : Int) * (a : Int)) = ((2 * a : Nat) : Int) := by rw [w64_of (by omega)]; omega

theorem ok_siftDown {xs : List PR} {lo hi first : Nat} (hb : first + hi ≤ xs.length) (hl : xs.length < 1099511627776) (hlo : lo < 1099511627776) (hH : Heap xs first hi (lo + 1)) :
    FnM bs n_slices_siftDownCmpFunc (insAt 0 (.row 0 0) ((Shape.pair (.int .i64) (.pair (.int .i64) (.pair (.int .i64) (.func (.pair sRun sRun) (.int .i64))))).compsE ((lo : Int), (hi : Int), (first : Int), G))) (b_slices_siftDownCmpFunc xs) (.tup .unit) (fun _ ys => Sw first (first + hi) xs ys ∧ Heap ys first hi lo) := by
  refine okM_of (e_slices_siftDownCmpFunc xs ((lo : Int), (hi : Int), (first : Int), G) _) rfl (HanOK.none rfl rfl) ?_
  unfold c_slices_siftDownCmpFunc
  refine loopP_of (fun z : Int × List PR => ∃ r : Nat, z.1 = r ∧ lo ≤ r ∧ r < 1099511627776 ∧ Sw first (first + hi) xs z.2 ∧ (∀ p c, lo ≤ p → p ≠ r → (c = 2 * p + 1 ∨ c = 2 * p + 2) → c < hi → ky z.2 (first + c) ≤ ky z.2 (first + p)) ∧
      (∀ p c, lo ≤ p → (r = 2 * p + 1 ∨ r = 2 * p + 2) → (c = 2 * r + 1 ∨ c = 2 * r + 2) → c < hi → ky z.2 (first + c) ≤ ky z.2 (first + p))) (fun z => hi - z.1.toNat) ?_
    ⟨lo, rfl, Nat.le_refl _, hlo, .refl, fun p c h1 h2 h3 h4 => hH p c (by omega) h3 h4, fun p c h1 h2 h3 h4 => by omega⟩
  rintro ⟨_, ys⟩ A ⟨r, e1, h1, h2, h3, h4, h5⟩ back
  dsimp only at e1 h3 h4 h5 ⊢
  subst e1
  have hlen := h3.length
  rw [w_mul2 (by omega), w_succ (by omega)]
  refine cond_dec (fun hc => ?_) fun hc => ?_
  · have hc : (hi : Int) ≤ ((2 * r + 1 : Nat) : Int) := hc
    refine ⟨h3, fun p c q1 q2 q3 => ?_⟩
    by_cases hp : p = r
    · subst hp; omega
    · exact h4 p c q1 hp q2 q3
  · have hc : ¬ (hi : Int) ≤ ((2 * r + 1 : Nat) : Int) := hc
    refine join_of (fun z : Int => ∃ c : Nat, z = c ∧ (c = 2 * r + 1 ∨ c = 2 * r + 2) ∧ c < hi ∧ ∀ c', (c' = 2 * r + 1 ∨ c' = 2 * r + 2) → c' < hi → ky ys (first + c') ≤ ky ys (first + c)) (fun J hJ => ?_) fun z => ?_
    · rw [w_succ (by omega), w_add (by omega), w_succ (by omega)]
      refine cond_dec (fun hd => ?_) fun hd => ?_
      · have hd : ((2 * r + 1 + 1 : Nat) : Int) < (hi : Int) := hd
        refine ⟨⟨by omega, by omega⟩, ⟨by omega, by omega⟩, gcall_eq rfl (cond_cmp (fun hk => ?_) fun hk => ?_)⟩
        · have hk : ky ys (first + (2 * r + 1)) < ky ys (first + (2 * r + 1) + 1) := hk
          refine hJ _ ⟨2 * r + 1 + 1, rfl, .inr rfl, by omega, fun c' q1 q2 => ?_⟩
          rcases q1 with q1 | q1
          · subst q1; exact Int.le_of_lt hk
          · subst q1; exact Int.le_refl _
        · have hk : ¬ ky ys (first + (2 * r + 1)) < ky ys (first + (2 * r + 1) + 1) := hk
          refine hJ _ ⟨2 * r + 1, rfl, .inl rfl, by omega, fun c' q1 q2 => ?_⟩
          rcases q1 with q1 | q1
          · subst q1; exact Int.le_refl _
          · subst q1; rw [show first + (2 * r + 2) = first + (2 * r + 1) + 1 by omega]; omega
      · have hd : ¬ ((2 * r + 1 + 1 : Nat) : Int) < (hi : Int) := hd
        refine hJ _ ⟨2 * r + 1, rfl, .inl rfl, by omega, fun c' q1 q2 => ?_⟩
        rcases q1 with q1 | q1
        · subst q1; exact Int.le_refl _
        · omega
    · rintro ⟨c, rfl, c1, c2, c3⟩
      rw [w_add (by omega), w_add (by omega)]
      refine ⟨⟨by omega, by omega⟩, ⟨by omega, by omega⟩, gcall_eq rfl (cond_ncmp (fun hk => ?_) fun hk => ?_)⟩
      · have hk : ¬ ky ys (first + r) < ky ys (first + c) := hk
        refine ⟨h3, fun p d q1 q2 q3 => ?_⟩
        by_cases hp : p = r
        · subst hp; have := c3 d q2 q3; omega
        · exact h4 p d q1 hp q2 q3
      · have hk : ky ys (first + r) < ky ys (first + c) := hk
        refine ⟨⟨by omega, by omega⟩, ⟨by omega, by omega⟩, ⟨by omega, by omega⟩, ⟨by omega, by rw [List.length_set]; omega⟩, ?_⟩
        refine back ((c : Int), sw ys (first + r) (first + c)) ⟨c, rfl, by omega, by omega, .step _ _ h3 (by omega) (by omega) (by omega) (by omega) hb, fun p d q1 q2 q3 q4 => ?_, fun p d q1 q2 q3 q4 => ?_⟩ (by dsimp only; omega)
        · dsimp only
          rw [ky_sw (by omega) (by omega), ky_sw (by omega) (by omega)]
          by_cases hp : p = r
          · subst hp
            rw [if_neg (show ¬ first + p = first + c by omega), if_pos (show first + p = first + p from rfl)]
            by_cases hd : d = c
            · subst hd; rw [if_pos rfl]; omega
            · rw [if_neg (by omega), if_neg (by omega)]; exact c3 d q3 q4
          · rw [if_neg (show ¬ first + p = first + c by omega), if_neg (show ¬ first + p = first + r by omega)]
            by_cases hd : d = r
            · subst hd
              rw [if_neg (by omega), if_pos rfl]
              exact h5 p c q1 q3 c1 c2
            · rw [if_neg (by omega), if_neg (by omega)]
              exact h4 p d q1 hp q3 q4
        · dsimp only
          have hpr : p = r := by omega
          subst hpr
          rw [ky_sw (by omega) (by omega), ky_sw (by omega) (by omega), if_neg (by omega), if_neg (by omega), if_neg (by omega), if_pos rfl]
          exact h4 c d (by omega) (by omega) q3 q4

theorem ok_heapSort {xs : List PR} {a b : Nat} (hab : a ≤ b) (hb : b ≤ xs.length) (hl : xs.length < 1099511627776) :
    FnM bs n_slices_heapSortCmpFunc (insAt 0 (.row 0 0) ((Shape.pair (.int .i64) (.pair (.int .i64) (.func (.pair sRun sRun) (.int .i64)))).compsE ((a : Int), (b : Int), G))) (b_slices_heapSortCmpFunc xs) (.tup .unit) (fun _ ys => Sw a b xs ys ∧ Srt ys a b) := by
  refine okM_of (e_slices_heapSortCmpFunc xs ((a : Int), (b : Int), G) _) rfl (HanOK.ofList [(247, .mut 0)] rfl rfl trivial) ?_
  unfold c_slices_heapSortCmpFunc
  dsimp only
  rw [w64_of (n := (b : Int) - (a : Int)) (by omega), show (b : Int) - (a : Int) = ((b - a : Nat) : Int) by omega]
  generalize hh : b - a = hi
  have hbe : b = a + hi := by omega
  subst hbe
  refine ⟨by decide, ?_⟩
  rw [w64_of (n := (hi : Int) - 1) (by omega)]
  refine loopP_of (fun z : Int × List PR => -1 ≤ z.1 ∧ z.1 < 1099511627776 ∧ Sw a (a + hi) xs z.2 ∧ Heap z.2 a hi (z.1 + 1).toNat) (fun z => (z.1 + 1).toNat) ?_ ⟨?_, ?_, .refl, ?_⟩
  · rintro ⟨i, ys⟩ A ⟨h1, h2, h3, h4⟩ back
    dsimp only at h1 h2 h3 h4 ⊢
    have hlen := h3.length
    refine cond_dec (fun hi0 => ?_) fun hi0 => ?_
    · have hi0 : 0 ≤ i := hi0
      obtain ⟨k, rfl⟩ := Int.eq_ofNat_of_zero_le hi0
      have h4 : Heap ys a hi (k + 1) := h4
      refine callMP_of (ok_siftDown (xs := ys) (lo := k) (hi := hi) (first := a) (by omega) (by omega) (by omega) h4) fun r zs hz => ?_
      have hz : Sw a (a + hi) ys zs ∧ Heap zs a hi k := hz
      refine ⟨hz.1.length, ?_⟩
      refine back (w64 ((k : Int) - 1), zs) ?_ ?_ <;> dsimp only <;> rw [w64_of (by omega)]
      · refine ⟨by omega, by omega, h3.trans hz.1, ?_⟩
        rw [show ((k : Int) - 1 + 1).toNat = k by omega]
        exact hz.2
      · omega
    · have hi0 : ¬ 0 ≤ i := hi0
      have : i = -1 := by omega
      subst this
      have h4 : Heap ys a hi 0 := h4
      refine loopP_of (fun z : Int × List PR => ∃ n : Nat, z.1 = (n : Int) - 1 ∧ n ≤ hi ∧ Sw a (a + hi) xs z.2 ∧ Heap z.2 a n 0 ∧ Srt z.2 (a + n) (a + hi) ∧ ∀ p q, p < n → n ≤ q → q < hi → ky z.2 (a + p) ≤ ky z.2 (a + q)) (fun z => (z.1 + 1).toNat) ?_ ⟨hi, ?_, Nat.le_refl _, h3, h4, Srt.small (by omega), fun p q q1 q2 q3 => by omega⟩
      · rintro ⟨_, ys⟩ A ⟨n, e1, g1, g2, g3, g4, g5⟩ back2
        dsimp only at e1 g2 g3 g4 g5 ⊢
        subst e1
        have hlen := g2.length
        refine cond_dec (fun hn => ?_) fun hn => ?_
        · have hn : 0 ≤ (n : Int) - 1 := hn
          rw [w64_of (n := (a : Int) + ((n : Int) - 1)) (by omega), show (a : Int) + ((n : Int) - 1) = ((a + (n - 1) : Nat) : Int) by omega]
          refine ⟨⟨by omega, by omega⟩, ⟨by omega, by omega⟩, ⟨by omega, by omega⟩, ⟨by omega, by rw [List.length_set]; omega⟩, ?_⟩
          have hsw : Sw a (a + hi) ys (sw ys a (a + (n - 1))) := .step _ _ .refl (by omega) (by omega) (by omega) (by omega) (by omega)
          have hslen := hsw.length
          have hk : ∀ k, ky (sw ys a (a + (n - 1))) k = if k = a + (n - 1) then ky ys a else if k = a then ky ys (a + (n - 1)) else ky ys k := fun k => ky_sw (by omega) (by omega)
          have hheap : Heap (sw ys a (a + (n - 1))) a (n - 1) (0 + 1) := by
            intro p c q1 q2 q3
            rw [hk, hk, if_neg (by omega), if_neg (by omega), if_neg (by omega), if_neg (by omega)]
            exact g3 p c (by omega) q2 (by omega)
          have hcall := ok_siftDown (xs := sw ys a (a + (n - 1))) (lo := 0) (hi := n - 1) (first := a) (by omega) (by omega) (by omega) hheap
          rw [show (((n - 1 : Nat) : Nat) : Int) = (n : Int) - 1 by omega] at hcall
          refine callMP_of hcall fun r zs hz => ?_
          have hz : Sw a (a + (n - 1)) (sw ys a (a + (n - 1))) zs ∧ Heap zs a (n - 1) 0 := hz
          refine ⟨hz.1.length, ?_⟩
          have hw := hz.1.wider (a' := a) (b' := a + hi) (by omega) (by omega) (by omega)
          have top := g3.top
          -- what is below n - 1 is no greater than what was there below n
          have hle : ∀ k, a ≤ k → k < a + (n - 1) → ky zs k ≤ ky ys a ∧ ∀ q, n ≤ q → q < hi → ky zs k ≤ ky ys (a + q) := by
            refine hz.1.each (P := fun x => x.1 ≤ ky ys a ∧ ∀ q, n ≤ q → q < hi → x.1 ≤ ky ys (a + q)) fun k k1 k2 => ?_
            have : ∃ c, c < n ∧ (el (sw ys a (a + (n - 1))) k).1 = ky ys (a + c) := by
              show ∃ c, c < n ∧ ky (sw ys a (a + (n - 1))) k = ky ys (a + c)
              rw [hk]
              by_cases e1 : k = a + (n - 1)
              · omega
              · rw [if_neg e1]
                by_cases e2 : k = a
                · rw [if_pos e2]; exact ⟨n - 1, by omega, rfl⟩
                · rw [if_neg e2]; exact ⟨k - a, by omega, by rw [show a + (k - a) = k by omega]⟩
            obtain ⟨c, c1, c2⟩ := this
            rw [c2]
            exact ⟨top c c1, fun q q1 q2 => g5 c q c1 q1 q2⟩
          have hout : ∀ q, n - 1 ≤ q → q < hi → ky zs (a + q) = if q = n - 1 then ky ys a else ky ys (a + q) := by
            intro q q1 q2
            unfold ky
            rw [hz.1.outside (.inr (by omega))]
            show ky (sw ys a (a + (n - 1))) (a + q) = _
            rw [hk]
            by_cases e : q = n - 1
            · rw [if_pos (by omega), if_pos e]; rfl
            · rw [if_neg (by omega), if_neg (by omega), if_neg e]; rfl
          refine back2 (w64 ((n : Int) - 1 - 1), zs) ?_ ?_ <;> dsimp only <;> rw [w64_of (by omega)]
          · refine ⟨n - 1, by omega, by omega, g2.trans (hsw.trans hw), hz.2, ?_, ?_⟩
            · refine Srt.of_step fun k k1 k2 => ?_
              have e1 := hout (k - a) (by omega) (by omega)
              have e2 := hout (k + 1 - a) (by omega) (by omega)
              rw [show a + (k - a) = k by omega] at e1
              rw [show a + (k + 1 - a) = k + 1 by omega] at e2
              rw [e1, e2, if_neg (show ¬ (k + 1 - a = n - 1) by omega)]
              by_cases e : k - a = n - 1
              · rw [if_pos e]
                have := g5 0 (k + 1 - a) (by omega) (by omega) (by omega)
                rw [show a + (k + 1 - a) = k + 1 by omega] at this
                exact this
              · rw [if_neg e]
                exact g4 k (k + 1) (by omega) (by omega) (by omega)
            · intro p q q1 q2 q3
              have h := hle (a + p) (by omega) (by omega)
              rw [hout q q2 q3]
              by_cases e : q = n - 1
              · rw [if_pos e]; exact h.1
              · rw [if_neg e]; exact h.2 q (by omega) q3
          · omega
        · have hn : ¬ 0 ≤ (n : Int) - 1 := hn
          have : n = 0 := by omega
          subst this
          exact ⟨g2, g4⟩
      · rfl
  · dsimp only
    by_cases h0 : hi = 0
    · subst h0; decide
    · rw [tdiv_of (show (0 : Int) ≤ (hi : Int) - 1 by omega), w64_of (by omega)]; omega
  · dsimp only
    by_cases h0 : hi = 0
    · subst h0; decide
    · rw [tdiv_of (show (0 : Int) ≤ (hi : Int) - 1 by omega), w64_of (by omega)]; omega
  · dsimp only
    intro p c q1 q2 q3
    by_cases h0 : hi = 0
    · omega
    · rw [tdiv_of (show (0 : Int) ≤ (hi : Int) - 1 by omega), w64_of (by omega)] at q1
      omega
end Go.Proofs.YtgeefhjlfdidmaaGreatDoor.V


/- Sorting runs, the second part: what the program's functions answer. No condition of its own. -/
namespace Go.Proofs.YtgeefhjlfdidmaaGreatDoor.V
open Go
set_option linter.unusedVariables false
set_option linter.unusedSimpArgs false

theorem lenT : ∀ t : Fin 256, str0.getD t.val 0 ≤ 8 ∧ t.val < 2 ^ (str0.getD t.val 0) ∧ (t.val = 0 ∨ 2 ^ (str0.getD t.val 0) ≤ 2 * t.val) := by decide +kernel

/-- How many binary digits a number has. -/
def LenR (a : Nat) (r : Int) : Prop := ∃ k : Nat, r = k ∧ k ≤ 40 ∧ a < 2 ^ k ∧ (a = 0 ∨ 2 ^ k ≤ 2 * a)

theorem len_join {a n v k : Nat} (hv : v = a / 2 ^ n) (h1 : v < 2 ^ k) (h2 : v = 0 ∨ 2 ^ k ≤ 2 * v) (h0 : n = 0 ∨ 0 < v) : a < 2 ^ (n + k) ∧ (a = 0 ∨ 2 ^ (n + k) ≤ 2 * a) := by
  have hp : 0 < 2 ^ n := Nat.two_pow_pos n
  subst hv
  refine ⟨?_, ?_⟩
  · rw [Nat.pow_add, Nat.mul_comm]
    exact (Nat.div_lt_iff_lt_mul hp).1 h1
  · rcases h2 with h2 | h2
    · rcases h0 with h0 | h0
      · subst h0; left; simpa using h2
      · omega
    · right
      rw [Nat.pow_add]
      have h3 : 2 ^ n * (a / 2 ^ n) ≤ a := Nat.mul_div_le a (2 ^ n)
      have h4 : 2 ^ n * 2 ^ k ≤ 2 ^ n * (2 * (a / 2 ^ n)) := Nat.mul_le_mul_left _ h2
      have h5 : 2 ^ n * (2 * (a / 2 ^ n)) = 2 * (2 ^ n * (a / 2 ^ n)) := by rw [Nat.mul_left_comm]
      omega

/-- The last two stages of counting digits. -/
theorem len_tail {a n v : Nat} {x : Int} (hx : x = (v : Int)) (hv : v = a / 2 ^ n) (hv2 : v < 65536) (ha : a < 1099511627776) (hn : n ≤ 32) (h0 : n = 0 ∨ 0 < v) (hk : n + 8 ≤ 40) (h16 : 256 ≤ v → n ≤ 16) :
    cond (decide ((256 : Int) ≤ x)) (chk ((0 : Int) ≤ (8 : Int) ∧ (8 : Int) < (IntKind.bits .u64 : Int)) (chk ((0 : Int) ≤ (IntKind.wrap .u8 (Int.fdiv x (2 ^ (8 : Int).toNat))) ∧ (IntKind.wrap .u8 (Int.fdiv x (2 ^ (8 : Int).toNat))) < ((256 : Nat) : Int)) (LenR a (w64 (w64 ((n : Int) + 8) + w64 ((str0.getD (IntKind.wrap .u8 (Int.fdiv x (2 ^ (8 : Int).toNat))).toNat 0 : Nat) : Int))))))
      (chk ((0 : Int) ≤ (IntKind.wrap .u8 x) ∧ (IntKind.wrap .u8 x) < ((256 : Nat) : Int)) (LenR a (w64 ((n : Int) + w64 ((str0.getD (IntKind.wrap .u8 x).toNat 0 : Nat) : Int))))) := by
  subst hx
  refine cond_dec (fun q => ?_) fun q => ?_
  · have q : (256 : Int) ≤ v := q
    have e0 : Int.fdiv (v : Int) (2 ^ (8 : Int).toNat) = ((v / 256 : Nat) : Int) := by
      rw [show (2 : Int) ^ (8 : Int).toNat = 256 from rfl, Int.fdiv_eq_ediv_of_nonneg _ (by omega)]; omega
    rw [e0]
    have e1 : IntKind.wrap .u8 ((v / 256 : Nat) : Int) = ((v / 256 : Nat) : Int) := by simp [IntKind.wrap, IntKind.bits, IntKind.signed]; omega
    rw [e1, Int.toNat_natCast]
    refine ⟨by decide, ⟨by omega, by omega⟩, ?_⟩
    have hT := lenT ⟨v / 256, by omega⟩
    dsimp only at hT
    generalize hk : str0.getD (v / 256) 0 = k at hT
    obtain ⟨h1, h2, h3⟩ := hT
    have hn16 := h16 (by omega)
    rw [w64_of (n := (k : Int)) (by omega), w64_of (n := (n : Int) + 8) (by omega), w64_of (n := (n : Int) + 8 + (k : Int)) (by omega)]
    have hj := len_join (a := a) (n := n) (v := v) (k := k + 8) hv (by rw [Nat.pow_add]; have : (2 : Nat) ^ 8 = 256 := rfl; omega) (.inr (by rw [Nat.pow_add]; have : (2 : Nat) ^ 8 = 256 := rfl; rcases h3 with h3 | h3 <;> omega)) h0
    exact ⟨n + (k + 8), by omega, by omega, hj.1, hj.2⟩
  · have q : ¬ (256 : Int) ≤ v := q
    have e1 : IntKind.wrap .u8 (v : Int) = (v : Int) := by simp [IntKind.wrap, IntKind.bits, IntKind.signed]; omega
    rw [e1, Int.toNat_natCast]
    refine ⟨⟨by omega, by omega⟩, ?_⟩
    have hT := lenT ⟨v, by omega⟩
    dsimp only at hT
    generalize hk : str0.getD v 0 = k at hT
    obtain ⟨h1, h2, h3⟩ := hT
    rw [w64_of (n := (k : Int)) (by omega), w64_of (n := (n : Int) + (k : Int)) (by omega)]
    have hj := len_join (a := a) (n := n) (v := v) (k := k) hv h2 h3 h0
    exact ⟨n + k, by omega, by omega, hj.1, hj.2⟩

theorem ok_bits_Len64 {a : Nat} (h : a < 1099511627776) : FnE bs n_bits_Len64 ((Shape.int .u64).compsE (a : Int)) (.int .i64) (LenR a) := by
  refine ok_of (e_bits_Len64 (a : Int) _) rfl ?_
  unfold c_bits_Len64
  refine cond_dec (fun q => ?_) fun q => ?_
  · have q : (4294967296 : Int) ≤ a := q
    have e0 : Int.fdiv (a : Int) (2 ^ (32 : Int).toNat) = ((a / 4294967296 : Nat) : Int) := by
      rw [show (2 : Int) ^ (32 : Int).toNat = 4294967296 from rfl, Int.fdiv_eq_ediv_of_nonneg _ (by omega)]; omega
    rw [e0]
    refine ⟨by decide, cond_no (decide_eq_false (show ¬ (65536 : Int) ≤ ((a / 4294967296 : Nat) : Int) by omega)) ?_⟩
    exact len_tail (n := 32) (v := a / 4294967296) rfl rfl (by omega) h (by decide) (.inr (by omega)) (by decide) (fun _ => by omega)
  · have q : ¬ (4294967296 : Int) ≤ a := q
    refine cond_dec (fun q2 => ?_) fun q2 => ?_
    · have q2 : (65536 : Int) ≤ a := q2
      have e0 : Int.fdiv (a : Int) (2 ^ (16 : Int).toNat) = ((a / 65536 : Nat) : Int) := by
        rw [show (2 : Int) ^ (16 : Int).toNat = 65536 from rfl, Int.fdiv_eq_ediv_of_nonneg _ (by omega)]; omega
      rw [e0]
      refine ⟨by decide, ?_⟩
      exact len_tail (n := 16) (v := a / 65536) rfl rfl (by omega) h (by decide) (.inr (by omega)) (by decide) (fun _ => by omega)
    · have q2 : ¬ (65536 : Int) ≤ a := q2
      exact len_tail (n := 0) (v := a) rfl (by simp) (by omega) h (by decide) (.inl rfl) (by decide) (fun _ => by omega)

theorem ok_bits_Len {a : Nat} (h : a < 100000000000) : FnE bs n_bits_Len ((Shape.int .u64).compsE (a : Int)) (.int .i64) (LenR a) := by
  refine ok_of (e_bits_Len (a : Int) _) rfl ?_
  unfold c_bits_Len
  exact callP_of (ok_bits_Len64 (by omega)) fun r hr => hr

theorem wrapU {a : Nat} (h : a < 4611686018427387904) : IntKind.wrap .u64 (a : Int) = (a : Int) := by simp [IntKind.wrap, IntKind.bits, IntKind.signed]; omega

theorem ok_nextPowerOfTwo {a : Nat} (h : a < 100000000000) : FnE bs n_slices_nextPowerOfTwo ((Shape.int .i64).compsE (a : Int)) (.int .u64) (fun r => ∃ k : Nat, k ≤ 40 ∧ r = ((2 ^ k : Nat) : Int) ∧ (a = 0 ∨ 2 ^ k ≤ 2 * a)) := by
  refine ok_of (e_slices_nextPowerOfTwo (a : Int) _) rfl ?_
  unfold c_slices_nextPowerOfTwo
  rw [wrapU (by omega)]
  refine callP_of (ok_bits_Len h) fun r ⟨k, e, h1, h2, h3⟩ => ?_
  have hp : (2 : Nat) ^ k ≤ 2 ^ 40 := Nat.pow_le_pow_right (by decide) h1
  have h16 : (2 : Nat) ^ 40 = 1099511627776 := rfl
  have e : r = (k : Int) := e
  subst e
  refine ⟨⟨by omega, by show (k : Int) < (64 : Int); omega⟩, k, h1, ?_, h3⟩
  rw [Int.toNat_natCast, Int.one_mul, show (2 : Int) ^ k = ((2 ^ k : Nat) : Int) by simp]
  exact wrapU (by omega)

theorem ok_xorshift_Next {b : Int} : FnM bs n_slices_xorshift_Next (insAt 0 (.box 0 0) ((Shape.unit).compsE ())) (b_slices_xorshift_Next b) (.int .u64) (fun _ _ => True) := by
  refine okM_of (e_slices_xorshift_Next b _) rfl (HanOK.none rfl rfl) ?_
  unfold c_slices_xorshift_Next
  exact ⟨by decide, by decide, by decide, trivial⟩

theorem ok_breakPatterns {xs : List PR} {a b : Nat} (hab : a ≤ b) (hb : b ≤ xs.length) (hl : xs.length < 100000000000) :
    FnM bs n_slices_breakPatternsCmpFunc (insAt 0 (.row 0 0) ((Shape.pair (.int .i64) (.pair (.int .i64) (.func (.pair sRun sRun) (.int .i64)))).compsE ((a : Int), (b : Int), G))) (b_slices_breakPatternsCmpFunc xs) (.tup .unit) (fun _ ys => Sw a b xs ys) := by
  refine okM_of (e_slices_breakPatternsCmpFunc xs ((a : Int), (b : Int), G) _) rfl (HanOK.ofList [(249, .mut 0)] rfl rfl trivial) ?_
  unfold c_slices_breakPatternsCmpFunc
  dsimp only
  rw [w64_of (n := (b : Int) - (a : Int)) (by omega), show (b : Int) - (a : Int) = ((b - a : Nat) : Int) by omega]
  generalize hh : b - a = n
  have hbe : b = a + n := by omega
  subst hbe
  refine cond_dec (fun h8 => ?_) fun _ => .refl
  have h8 : (8 : Int) ≤ n := h8
  refine callP_of (ok_nextPowerOfTwo (a := n) (by omega)) fun r ⟨k, hk, hr, hr2⟩ => ⟨by decide, ?_⟩
  have hr : r = ((2 ^ k : Nat) : Int) := hr
  subst hr
  have hp : (2 : Nat) ^ k ≤ 2 ^ 40 := Nat.pow_le_pow_right (by decide) hk
  have h16 : (2 : Nat) ^ 40 = 1099511627776 := rfl
  have hpos : 1 ≤ (2 : Nat) ^ k := Nat.one_le_two_pow
  have hmod : IntKind.wrap .u64 (((2 ^ k : Nat) : Int) - 1) = ((2 ^ k - 1 : Nat) : Int) := by rw [show ((2 ^ k : Nat) : Int) - 1 = ((2 ^ k - 1 : Nat) : Int) by omega]; exact wrapU (by omega)
  rw [hmod, tdiv_of (show (0 : Int) ≤ (n : Int) by omega), w64_of (n := (n : Int) / 4) (by omega), w64_of (n := (n : Int) / 4 * 2) (by omega), w64_of (n := (a : Int) + (n : Int) / 4 * 2) (by omega), w64_of (n := (a : Int) + (n : Int) / 4 * 2 - 1) (by omega), w64_of (n := (a : Int) + (n : Int) / 4 * 2 + 1) (by omega)]
  refine loopP_of (fun z : Int × List PR × Int => ∃ i : Nat, z.1 = i ∧ a ≤ i ∧ i ≤ a + n / 4 * 2 + 2 ∧ Sw a (a + n) xs z.2.1) (fun z => a + n + 10 - z.1.toNat) ?_ ⟨a + n / 4 * 2 - 1, by dsimp only; omega, by omega, by omega, .refl⟩
  rintro ⟨_, ys, rd⟩ A ⟨i, e1, g1, g2, g3⟩ back
  dsimp only at e1 g3 ⊢
  subst e1
  have hlen := g3.length
  refine ⟨by decide, cond_dec (fun hi => ?_) fun hi => g3⟩
  have hi : (i : Int) ≤ (a : Int) + (n : Int) / 4 * 2 + 1 := hi
  refine callMP_of ok_xorshift_Next fun x y _ => ?_
  -- what is drawn lies below twice the length
  have hand : ∀ x : Int, ∃ m : Nat, w64 (IntKind.wrap .u64 ((BitVec.ofInt (IntKind.bits .u64) x &&& BitVec.ofInt (IntKind.bits .u64) ((2 ^ k - 1 : Nat) : Int)).toNat : Int)) = (m : Int) ∧ m < 2 ^ k := by
    intro x
    have hle : (BitVec.ofInt (IntKind.bits .u64) x &&& BitVec.ofInt (IntKind.bits .u64) ((2 ^ k - 1 : Nat) : Int)).toNat ≤ 2 ^ k - 1 := by
      rw [BitVec.toNat_and]
      refine Nat.le_trans Nat.and_le_right ?_
      rw [BitVec.toNat_ofInt]
      show (((2 ^ k - 1 : Nat) : Int) % ((2 ^ 64 : Nat) : Int)).toNat ≤ _
      rw [Int.emod_eq_of_lt (by omega) (by have : (2 : Nat) ^ 64 = 18446744073709551616 := rfl; omega)]
      omega
    generalize (BitVec.ofInt (IntKind.bits .u64) x &&& BitVec.ofInt (IntKind.bits .u64) ((2 ^ k - 1 : Nat) : Int)).toNat = m at hle
    refine ⟨m, ?_, by omega⟩
    rw [wrapU (by omega), w64_of (by omega)]
  obtain ⟨m, hm, hm2⟩ := hand x
  have hm' : w64 (IntKind.wrap .u64 ((BitVec.ofInt (IntKind.bits .u64) (show Int from x) &&& BitVec.ofInt (IntKind.bits .u64) ((2 ^ k - 1 : Nat) : Int)).toNat : Int)) = (m : Int) := hm
  rw [hm']
  refine join_of (fun z : Int => ∃ m : Nat, z = m ∧ m < n) (fun J hJ => cond_dec (fun h => ?_) fun h => ?_) fun z => ?_
  · have h : (n : Int) ≤ m := h
    rw [w64_of (by omega)]
    exact hJ _ ⟨m - n, by omega, by omega⟩
  · have h : ¬ (n : Int) ≤ m := h
    exact hJ _ ⟨m, rfl, by omega⟩
  · rintro ⟨o, rfl, ho⟩
    rw [w_add (by omega), w_succ (by omega)]
    refine ⟨⟨by omega, by omega⟩, ⟨by omega, by omega⟩, ⟨by omega, by omega⟩, ⟨by omega, by rw [List.length_set]; omega⟩, ?_⟩
    exact back (((i + 1 : Nat) : Int), sw ys i (a + o), y) ⟨i + 1, rfl, by omega, by omega, .step _ _ g3 (by omega) (by omega) (by omega) (by omega) hb⟩ (by dsimp only; omega)

theorem ok_reverseRange {xs : List PR} {a b : Nat} (hab : a ≤ b) (hb : b ≤ xs.length) (hl : xs.length < 100000000000) :
    FnM bs n_slices_reverseRangeCmpFunc (insAt 0 (.row 0 0) ((Shape.pair (.int .i64) (.pair (.int .i64) (.func (.pair sRun sRun) (.int .i64)))).compsE ((a : Int), (b : Int), G))) (b_slices_reverseRangeCmpFunc xs) (.tup .unit) (fun _ ys => Sw a b xs ys) := by
  refine okM_of (e_slices_reverseRangeCmpFunc xs ((a : Int), (b : Int), G) _) rfl (HanOK.none rfl rfl) ?_
  unfold c_slices_reverseRangeCmpFunc
  dsimp only
  rw [w64_of (n := (b : Int) - 1) (by omega)]
  refine loopP_of (fun z : Int × Int × List PR => ∃ i : Nat, z.1 = i ∧ a ≤ i ∧ i ≤ b ∧ -1 ≤ z.2.1 ∧ z.2.1 < b ∧ Sw a b xs z.2.2) (fun z => b - z.1.toNat) ?_ ⟨a, rfl, Nat.le_refl _, hab, by dsimp only; omega, by dsimp only; omega, .refl⟩
  rintro ⟨_, j, ys⟩ A ⟨i, e1, g1, g2, g3, g4, g5⟩ back
  dsimp only at e1 g3 g4 g5 ⊢
  subst e1
  have hlen := g5.length
  refine cond_dec (fun h => ?_) fun h => g5
  have h : (i : Int) < j := h
  obtain ⟨k, rfl⟩ := Int.eq_ofNat_of_zero_le (show 0 ≤ j by omega)
  rw [w_succ (by omega), w64_of (n := (k : Int) - 1) (by omega)]
  refine ⟨⟨by omega, by omega⟩, ⟨by omega, by omega⟩, ⟨by omega, by omega⟩, ⟨by omega, by rw [List.length_set]; omega⟩, ?_⟩
  exact back (((i + 1 : Nat) : Int), (k : Int) - 1, sw ys i k) ⟨i + 1, rfl, by omega, by omega, by dsimp only; omega, by dsimp only; omega, .step _ _ g5 (by omega) (by omega) (by omega) (by omega) hb⟩ (by dsimp only; omega)

/-! ### The pivot: some place of the part -/

theorem ok_order2 {xs : List PR} {a b : Nat} {n : Int} (ha : a < xs.length) (hb : b < xs.length) (hl : xs.length < 100000000000) :
    FnM bs n_slices_order2CmpFunc (insAt 3 (.box 0 0) ((Shape.pair (.slice sRun) (.pair (.int .i64) (.pair (.int .i64) (.func (.pair sRun sRun) (.int .i64))))).compsE (xs, (a : Int), (b : Int), G))) (b_slices_order2CmpFunc n) (.tup (.pair (.int .i64) (.int .i64))) (fun r _ => r = ((a : Int), (b : Int)) ∨ r = ((b : Int), (a : Int))) := by
  refine okM_of (e_slices_order2CmpFunc n (xs, (a : Int), (b : Int), G) _) rfl (HanOK.none rfl rfl) ?_
  unfold c_slices_order2CmpFunc
  dsimp only
  exact ⟨⟨by omega, by omega⟩, ⟨by omega, by omega⟩, gcall_eq rfl (cond_cmp (fun _ => .inr rfl) fun _ => .inl rfl)⟩

theorem ok_median {xs : List PR} {a b c : Nat} {n : Int} (ha : a < xs.length) (hb : b < xs.length) (hc : c < xs.length) (hl : xs.length < 100000000000) :
    FnM bs n_slices_medianCmpFunc (insAt 4 (.box 0 0) ((Shape.pair (.slice sRun) (.pair (.int .i64) (.pair (.int .i64) (.pair (.int .i64) (.func (.pair sRun sRun) (.int .i64)))))).compsE (xs, (a : Int), (b : Int), (c : Int), G))) (b_slices_medianCmpFunc n) (.int .i64) (fun r _ => r = (a : Int) ∨ r = (b : Int) ∨ r = (c : Int)) := by
  refine okM_of (e_slices_medianCmpFunc n (xs, (a : Int), (b : Int), (c : Int), G) _) rfl (HanOK.ofList [(295, .mut 3)] rfl rfl trivial) ?_
  unfold c_slices_medianCmpFunc
  dsimp only
  -- the three places in some order, three times
  have key : ∀ (x y z : Nat) (n : Int), x < xs.length → y < xs.length → z < xs.length → (∀ w : Nat, (w = x ∨ w = y ∨ w = z) → w = a ∨ w = b ∨ w = c) → True := fun _ _ _ _ _ _ _ _ => trivial
  refine callMP_of (ok_order2 (xs := xs) (a := a) (b := b) ha hb hl) fun r n2 hr => ?_
  obtain ⟨p, q, hp, hq, hpc, hqc, e⟩ : ∃ p q : Nat, p < xs.length ∧ q < xs.length ∧ (p = a ∨ p = b) ∧ (q = a ∨ q = b) ∧ r = ((p : Int), (q : Int)) := by
    rcases hr with e | e
    · exact ⟨a, b, ha, hb, .inl rfl, .inr rfl, e⟩
    · exact ⟨b, a, hb, ha, .inr rfl, .inl rfl, e⟩
  subst e
  refine callMP_of (ok_order2 (xs := xs) (a := q) (b := c) hq hc hl) fun r n3 hr => ?_
  obtain ⟨s, hs, hsc, e⟩ : ∃ s : Nat, s < xs.length ∧ (s = q ∨ s = c) ∧ r.1 = (s : Int) := by
    rcases hr with e | e
    · exact ⟨q, hq, .inl rfl, by rw [e]⟩
    · exact ⟨c, hc, .inr rfl, by rw [e]⟩
  rw [e]
  refine callMP_of (ok_order2 (xs := xs) (a := p) (b := s) hp hs hl) fun r n4 hr => ?_
  have h2 : r.2 = (p : Int) ∨ r.2 = (s : Int) := by
    rcases hr with e | e
    · exact .inr (by rw [e])
    · exact .inl (by rw [e])
  dsimp only [Shape.Val] at *
  rcases h2 with h2 | h2 <;> rw [h2] <;> omega

theorem ok_medianAdjacent {xs : List PR} {a : Nat} {n : Int} (h1 : 1 ≤ a) (ha : a + 1 < xs.length) (hl : xs.length < 100000000000) :
    FnM bs n_slices_medianAdjacentCmpFunc (insAt 2 (.box 0 0) ((Shape.pair (.slice sRun) (.pair (.int .i64) (.func (.pair sRun sRun) (.int .i64)))).compsE (xs, (a : Int), G))) (b_slices_medianAdjacentCmpFunc n) (.int .i64) (fun r _ => ∃ k : Nat, r = k ∧ a ≤ k + 1 ∧ k ≤ a + 1) := by
  refine okM_of (e_slices_medianAdjacentCmpFunc n (xs, (a : Int), G) _) rfl (HanOK.ofList [(251, .mut 4)] rfl rfl trivial) ?_
  unfold c_slices_medianAdjacentCmpFunc
  dsimp only
  rw [w_pred (by omega) h1, w_succ (by omega)]
  refine callMP_of (ok_median (xs := xs) (a := a - 1) (b := a) (c := a + 1) (by omega) (by omega) (by omega) hl) fun r y hr => ?_
  rcases hr with e | e | e
  · exact ⟨_, e, by omega, by omega⟩
  · exact ⟨_, e, by omega, by omega⟩
  · exact ⟨_, e, by omega, by omega⟩

theorem ok_choosePivot {xs : List PR} {a b : Nat} (hab : a < b) (hb : b ≤ xs.length) (hl : xs.length < 100000000000) :
    FnE bs n_slices_choosePivotCmpFunc ((Shape.pair (.slice sRun) (.pair (.int .i64) (.pair (.int .i64) (.func (.pair sRun sRun) (.int .i64))))).compsE (xs, (a : Int), (b : Int), G)) (.tup (.pair (.int .i64) (.int .i64))) (fun r => ∃ p : Nat, r.1 = p ∧ a ≤ p ∧ p < b) := by
  refine ok_han (e_slices_choosePivotCmpFunc (xs, (a : Int), (b : Int), G) _) rfl (HanOK.ofList [(250, .mut 2), (251, .mut 4)] rfl rfl trivial) ?_
  unfold c_slices_choosePivotCmpFunc
  dsimp only
  rw [w64_of (n := (b : Int) - (a : Int)) (by omega), show (b : Int) - (a : Int) = ((b - a : Nat) : Int) by omega]
  generalize hh : b - a = n
  have hbe : b = a + n := by omega
  subst hbe
  rw [tdiv_of (show (0 : Int) ≤ (n : Int) by omega), w64_of (n := (n : Int) / 4) (by omega), w64_of (n := (n : Int) / 4 * 1) (by omega), w64_of (n := (n : Int) / 4 * 2) (by omega), w64_of (n := (n : Int) / 4 * 3) (by omega),
    w64_of (n := (a : Int) + (n : Int) / 4 * 1) (by omega), w64_of (n := (a : Int) + (n : Int) / 4 * 2) (by omega), w64_of (n := (a : Int) + (n : Int) / 4 * 3) (by omega),
    show (a : Int) + (n : Int) / 4 * 1 = ((a + n / 4 * 1 : Nat) : Int) by omega, show (a : Int) + (n : Int) / 4 * 2 = ((a + n / 4 * 2 : Nat) : Int) by omega, show (a : Int) + (n : Int) / 4 * 3 = ((a + n / 4 * 3 : Nat) : Int) by omega]
  refine ⟨by decide, by decide, by decide, cond_dec (fun h8 => ?_) fun h8 => ?_⟩
  · have h8 : (8 : Int) ≤ n := h8
    have fin : ∀ (r : Int) (y : Int), (∃ p : Nat, r = p ∧ a ≤ p ∧ p < a + n) → cond (decide (y = (0 : Int))) ((fun r : Int × Int => ∃ p : Nat, r.1 = p ∧ a ≤ p ∧ p < a + n) (r, (1 : Int))) (cond (decide (y = (12 : Int))) ((fun r : Int × Int => ∃ p : Nat, r.1 = p ∧ a ≤ p ∧ p < a + n) (r, (2 : Int))) ((fun r : Int × Int => ∃ p : Nat, r.1 = p ∧ a ≤ p ∧ p < a + n) (r, (0 : Int)))) :=
      fun r y h => cond_dec (fun _ => h) fun _ => cond_dec (fun _ => h) fun _ => h
    refine cond_dec (fun h50 => ?_) fun h50 => ?_
    · have h50 : (50 : Int) ≤ n := h50
      refine callMP_of (ok_medianAdjacent (xs := xs) (a := a + n / 4 * 1) (by omega) (by omega) hl) fun r y ⟨p1, e1, q1, q2⟩ => ?_
      have e1 : r = (p1 : Int) := e1
      subst e1
      refine callMP_of (ok_medianAdjacent (xs := xs) (a := a + n / 4 * 2) (by omega) (by omega) hl) fun r y ⟨p2, e2, q3, q4⟩ => ?_
      have e2 : r = (p2 : Int) := e2
      subst e2
      refine callMP_of (ok_medianAdjacent (xs := xs) (a := a + n / 4 * 3) (by omega) (by omega) hl) fun r y ⟨p3, e3, q5, q6⟩ => ?_
      have e3 : r = (p3 : Int) := e3
      subst e3
      refine callMP_of (ok_median (xs := xs) (a := p1) (b := p2) (c := p3) (by omega) (by omega) (by omega) hl) fun r y hr => fin r y ?_
      rcases hr with e | e | e
      · exact ⟨_, e, by omega, by omega⟩
      · exact ⟨_, e, by omega, by omega⟩
      · exact ⟨_, e, by omega, by omega⟩
    · refine callMP_of (ok_median (xs := xs) (a := a + n / 4 * 1) (b := a + n / 4 * 2) (c := a + n / 4 * 3) (by omega) (by omega) (by omega) hl) fun r y hr => fin r y ?_
      rcases hr with e | e | e
      · exact ⟨_, e, by omega, by omega⟩
      · exact ⟨_, e, by omega, by omega⟩
      · exact ⟨_, e, by omega, by omega⟩
  · have h : ∃ p : Nat, (((a + n / 4 * 2 : Nat) : Int)) = p ∧ a ≤ p ∧ p < a + n := ⟨_, rfl, by omega, by omega⟩
    exact cond_dec (fun _ => h) fun _ => cond_dec (fun _ => h) fun _ => h
end Go.Proofs.YtgeefhjlfdidmaaGreatDoor.V

