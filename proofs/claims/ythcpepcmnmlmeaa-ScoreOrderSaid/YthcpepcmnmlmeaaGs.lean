/- The context of a seat: annotations of its functions, facts on its types (made by program). -/
import Derived.Test.YthcpepcmnmlmeaaGw
import Derived.Test.YthcpepcmnmlmeaaProg
import Derived.KernelRfl
namespace Go.Gh
open Go.Proofs
set_option linter.unusedSimpArgs false
set_option linter.unusedVariables false
def annT : List (Nat × Nat × List Nat × List Nat) := [(4, 9, [12, 13, 14, 15], [8]), (5, 9, [1, 2, 4, 9, 10, 11, 12, 13], [1, 2, 4, 10, 11, 12]), (5, 14, [14, 15, 16, 17], [8]), (6, 9, [9, 10, 11], [6]), (6, 12, [9, 10, 11, 12], [6, 9, 10, 11]), (7, 7, [4, 5, 6, 7, 8, 9], [4, 5, 6, 8]), (9, 8, [4, 6, 7, 8, 9, 10, 11], [4, 7, 8, 9, 10]), (10, 6, [3, 4, 5, 6, 7], [3, 4, 5, 6]), (10, 13, [3, 4, 5, 6, 8, 9, 11], [2, 3, 4, 5, 6, 9]), (10, 17, [3, 4, 5, 6, 8, 9, 11, 12, 13], [2, 3, 4, 5, 6, 8, 9, 11, 12]), (10, 22, [3, 4, 5, 6, 8, 9, 11, 12, 13, 14], [2, 3, 4, 5, 6, 8, 9, 11, 12, 13]), (10, 33, [4, 5, 6, 9, 15, 16, 17], [4, 5, 6, 9, 15, 16]), (10, 40, [9, 15, 19, 21], [2]), (11, 10, [4, 5, 6, 7, 9, 10], [4, 6, 9]), (11, 18, [12, 14], [2]), (12, 7, [3, 4, 5, 6], [3, 4, 5]), (13, 10, [15, 16, 17, 18, 19], [10]), (13, 19, [15, 16, 17, 18, 19, 27, 28], [10, 15, 16, 17, 18, 19]), (14, 4, [0, 3, 4], [3]), (15, 4, [0, 2, 3, 8, 9, 10], [0, 2, 3, 8, 9]), (15, 12, [0, 2, 3, 8, 9, 11, 12, 13, 14, 15, 16], [0, 2, 3, 8, 9, 12, 14, 15]), (16, 5, [2, 3, 4, 5], [2, 3]), (17, 7, [1, 2, 7, 26, 27, 28], [1, 2, 7]), (17, 17, [1, 12, 13, 46, 47, 48], [4, 5, 13]), (17, 23, [1, 12, 13, 15, 16, 17, 46, 47, 48], [1, 4, 5, 12, 13, 46, 47, 48]), (17, 29, [1, 12, 13, 15, 16, 17, 18, 19, 46, 47, 48], [1, 12, 13, 15, 16, 17, 18, 46, 47, 48]), (18, 5, [0, 5, 6, 7], [6]), (21, 5, [0, 1, 5], [4]), (24, 5, [0, 1, 5, 6, 7], [5]), (26, 5, [0, 1, 5, 6, 7, 8], [7]), (29, 3, [1, 17, 18], [1, 2]), (29, 11, [1, 30, 31, 32], [2]), (30, 4, [1, 3, 4], [1, 2]), (30, 11, [1, 5], [2]), (30, 16, [1, 5, 6], [1, 2, 5]), (31, 3, [0, 3], [0, 2]), (33, 11, [1, 3, 6, 7, 30, 31, 32], [3, 6, 7, 8]), (33, 19, [3, 6, 7, 53, 54], [6, 7]), (33, 23, [3, 6, 7, 14, 15, 53, 54, 58, 59], [3, 6, 7, 15, 53, 54]), (34, 12, [1, 2, 3, 11, 12], [3, 6, 7, 8, 11]), (34, 20, [3, 11, 14, 15], [11, 14]), (34, 24, [3, 11, 14, 15, 16, 17], [3, 11, 14, 15, 16]), (35, 5, [0, 1, 5], [4]), (36, 7, [0, 6, 7, 8], [6, 7]), (36, 11, [0, 6, 7, 8, 9, 10], [0, 6, 7, 8, 9]), (37, 4, [0, 4, 7, 8], [7]), (38, 5, [1, 2, 3, 4], [1, 2]), (41, 12, [1, 33, 34, 35], [1, 2]), (42, 11, [1, 3], [1, 2]), (42, 17, [1, 3, 5], [1, 2, 3]), (44, 4, [0, 1, 5, 6], [5]), (46, 3, [0, 1, 5], [4]), (48, 11, [4, 8, 9, 10, 26, 27, 28], [4, 8, 9]), (50, 9, [1, 2, 4, 8, 9], [2, 4, 8]), (51, 5, [0, 1, 5], [4]), (55, 4, [0, 5, 6], [5]), (57, 7, [1, 25, 26, 27], [1, 2]), (57, 12, [1, 4, 25, 26, 27, 39, 40, 41], [1, 2, 4, 25, 26, 27]), (57, 24, [7, 8, 67, 68, 69], [2, 7]), (59, 7, [2, 3, 4, 28, 29], [2, 3, 4]), (61, 4, [5, 10, 11], [5]), (62, 6, [3, 4, 5, 6], [3]), (65, 13, [9, 37, 38, 39], [9]), (65, 22, [12, 59, 60, 61], [12]), (66, 8, [3, 14, 15, 16], [2]), (67, 5, [11, 12, 13], [4]), (68, 5, [2, 3, 4, 5, 6, 7, 17, 18], [2, 3, 4, 5, 6]), (68, 10, [2, 3, 4, 5, 6, 7, 8, 9, 17, 18, 28, 29], [2, 3, 4, 5, 6, 7, 8, 9, 17, 18]), (69, 7, [0, 1, 7, 24, 25], [0, 1, 7]), (69, 13, [0, 1, 7, 9, 48, 49], [0, 1, 7, 9]), (69, 19, [0, 1, 7, 9, 59, 60], [0, 9]), (69, 23, [0, 1, 7, 11, 12, 59, 60, 65, 66, 67], [0, 1, 7, 12, 59, 60]), (69, 27, [0, 1, 7, 11, 12, 13, 14, 59, 60, 65, 66, 67, 75, 76], [0, 1, 7, 11, 12, 59, 60, 65, 66, 67]), (74, 8, [0, 3, 4], [2]), (75, 5, [0, 1, 5], [4]), (76, 5, [1, 2, 3, 6, 7, 8, 9, 10], [1, 2, 3, 6, 7, 8, 9]), (76, 16, [1, 2, 3, 6, 7, 8, 9, 10, 11], [1, 2, 3, 6, 7, 8, 9, 10]), (76, 20, [1, 2, 3, 6, 7, 8, 9], [1, 2, 3, 6, 7, 8, 9]), (80, 4, [1, 2, 3, 9, 15, 16, 17], [8]), (81, 3, [1, 2, 3, 4, 9], [8]), (82, 5, [3, 14, 15, 16], [3]), (85, 4, [1, 5, 8, 9, 10], [5]), (86, 5, [0, 1, 5], [4]), (87, 5, [3, 4, 10, 11, 12], [4]), (89, 5, [1, 2, 3, 4], [1, 2]), (91, 3, [0, 6, 7, 8], [0, 2]), (94, 4, [1, 3, 4], [3]), (94, 10, [1, 3, 4, 5, 6], [1, 3, 4]), (96, 4, [1, 2, 5, 6], [5]), (98, 3, [1, 2, 3, 7], [6]), (99, 7, [2, 3, 4, 5], [2, 4]), (100, 4, [3, 7, 8, 9], [3]), (103, 4, [1, 5, 8, 9, 10], [5]), (113, 6, [0, 3, 4], [3]), (114, 4, [0, 3, 4, 5], [3]), (114, 7, [0, 3, 4, 5, 6], [0, 3, 4, 5, 6]), (115, 3, [0, 1, 2, 7], [1, 2, 6]), (116, 3, [0, 1, 2, 7], [1, 2, 6]), (119, 3, [0, 1, 7, 8], [4]), (134, 4, [3, 9, 10, 11], [3]), (134, 8, [3, 5, 6, 7, 9, 10, 11, 20, 21], [3, 5, 6, 9, 10, 11]), (135, 3, [0, 1, 7, 8], [4]), (136, 3, [0, 1, 7, 8], [4]), (139, 6, [0, 1, 2, 3, 9, 10], [9]), (140, 4, [0, 3, 4], [3]), (152, 4, [0, 1, 2, 3, 9, 10], [9])]
def upT : List (Nat × Nat × Up) := [(5, 57, .scopes 1), (6, 31, .scopes 0), (7, 49, .scopes 1), (10, 41, .scopes 1), (10, 160, .scopes 1), (11, 83, .scopes 1), (12, 39, .scopes 1), (15, 42, .box 9), (15, 78, .box 9), (15, 103, .box 9), (15, 129, .box 9), (15, 164, .box 9), (15, 205, .box 9), (15, 236, .box 9), (15, 252, .box 9), (16, 42, .box 3), (17, 62, .scopes 1), (17, 118, .scopes 2), (18, 24, .scopes 1), (24, 23, .scopes 1), (26, 40, .scopes 1), (27, 5, .scopes 0), (33, 50, .scopes 1), (33, 73, .scopes 1), (34, 56, .scopes 1), (34, 79, .scopes 1), (36, 54, .scopes 1), (36, 59, .box 7), (37, 47, .scopes 1), (38, 22, .box 1), (44, 20, .scopes 1), (50, 43, .scopes 1), (55, 24, .scopes 1), (62, 29, .scopes 1), (65, 50, .scopes 1), (82, 29, .box 3), (87, 32, .scopes 1), (88, 6, .box 1), (89, 21, .box 1), (89, 23, .box 1), (94, 37, .scopes 2), (103, 21, .scopes 1), (108, 7, .scopes 0), (114, 40, .scopes 1), (114, 44, .scopes 1), (134, 28, .scopes 2), (134, 39, .scopes 1)]
def annOf (f r : Nat) : Option (List Nat × List Nat) := (annT.find? fun x => x.1 == f && x.2.1 == r).map fun x => x.2.2
def upOf (f d : Nat) : Up := ((upT.find? fun x => x.1 == f && x.2.1 == d).map fun x => x.2.2).getD (.scopes 0)
def needL : List (Nat × Nat × List (Nat × Nat)) := [(3, 4, [(3, 0)]), (3, 5, [(3, 0)]), (3, 13, [(14, 10)]), (4, 6, [(13, 0), (13, 1), (13, 2), (13, 3), (17, 0), (17, 1), (17, 2), (17, 3)]), (4, 10, [(8, 4), (14, 4), (14, 9)]), (4, 13, [(8, 4)]), (6, 5, [(3, 2)]), (6, 16, [(5, 1)]), (10, 23, [(24, 20), (27, 20), (30, 20)]), (12, 8, [(8, 5)]), (13, 7, [(7, 0), (7, 1), (7, 2), (10, 7), (11, 7), (12, 7)]), (15, 16, [(6, 1)]), (15, 23, [(7, 1)]), (15, 45, [(6, 1)]), (17, 24, [(6, 2)]), (37, 5, [(7, 2), (7, 4), (8, 2), (8, 4), (13, 2), (13, 4), (13, 10)]), (38, 6, [(6, 1)]), (41, 16, [(6, 4), (8, 4)]), (48, 14, [(5, 4)]), (55, 5, [(3, 1), (7, 3), (7, 5)]), (57, 21, [(5, 1), (5, 2)]), (62, 9, [(12, 0), (12, 5)]), (81, 4, [(14, 10), (17, 10), (20, 10)]), (82, 6, [(7, 5)]), (84, 1, [(4, 1)]), (89, 6, [(7, 1)]), (99, 8, [(21, 4)]), (117, 1, [(20, 16), (24, 16)]), (142, 1, [(6, 5), (10, 5)])]
def needT (f r : Nat) : List (Nat × Nat) := ((needL.find? fun x => x.1 == f && x.2.1 == r).map fun x => x.2.2).getD []
def eqsOf : Nat → Option (List SK)
  | 41 => some [.int .i64, .int .i64, .int .i64, .int .i64, .int .i64, .int .i64, .int .i64, .int .i64]
  | 95 => some [.int .i64, .int .i64, .int .i64, .int .i64, .int .i64]
  | _ => none
def keepL : List Nat := [14, 37, 82, 89, 108]
def frzL : List Nat := [33, 34, 48, 50, 73, 108]
def borL : List Nat := [20, 28, 80, 81, 113, 67, 75]
def clnL : List Nat := [108]
def ownL : List (Nat × Nat) := []
def carL : List (Nat × Nat) := []
def liftOf (f d : Nat) : Option Nat := if f = 82 ∧ d = 27 then some 3 else none
def rowOf (f d : Nat) : Option Nat := if f = 82 then (if d = 27 then some 77 else if d = 29 then some 77 else none) else if f = 89 then (if d = 21 then some 77 else if d = 23 then some 77 else none) else none
/-- The context; its second one has no function that is trusted with empty slices. -/
noncomputable def KC0 (cl : List Nat) : Ctx := { P := Try.prog, keep := fun f => keepL.contains f, ann := annOf, up := upOf, own := fun f d => ownL.contains (f, d), frz := fun f => frzL.contains f, bor := fun f => borL.contains f, car := fun f r => carL.contains (f, r), cln := fun f => cl.contains f, lift := liftOf, row := rowOf, eqs := eqsOf }
noncomputable def KC : Ctx := KC0 clnL
section
@[simp] theorem KC_P : KC.P = Try.prog := .trans rfl rfl
@[simp] theorem KC_own {f d : Nat} : KC.own f d = ownL.contains (f, d) := .trans rfl rfl
@[simp] theorem KC_lift {f d : Nat} : KC.lift f d = liftOf f d := .trans rfl rfl
@[simp] theorem KC_row {f d : Nat} : KC.row f d = rowOf f d := .trans rfl rfl
attribute [simp] liftOf rowOf ownL
@[simp] theorem KC_ann_12_7 : KC.ann 12 7 = some ([3, 4, 5, 6], [3, 4, 5]) := by kernel_rfl
@[simp] theorem KC_car_12_7 : KC.car 12 7 = false := by kernel_rfl
@[simp] theorem KC_ann_14_4 : KC.ann 14 4 = some ([0, 3, 4], [3]) := by kernel_rfl
@[simp] theorem KC_car_14_4 : KC.car 14 4 = false := by kernel_rfl
@[simp] theorem KC_ann_21_5 : KC.ann 21 5 = some ([0, 1, 5], [4]) := by kernel_rfl
@[simp] theorem KC_car_21_5 : KC.car 21 5 = false := by kernel_rfl
@[simp] theorem KC_ann_36_7 : KC.ann 36 7 = some ([0, 6, 7, 8], [6, 7]) := by kernel_rfl
@[simp] theorem KC_car_36_7 : KC.car 36 7 = false := by kernel_rfl
@[simp] theorem KC_ann_36_11 : KC.ann 36 11 = some ([0, 6, 7, 8, 9, 10], [0, 6, 7, 8, 9]) := by kernel_rfl
@[simp] theorem KC_car_36_11 : KC.car 36 11 = false := by kernel_rfl
@[simp] theorem KC_ann_41_12 : KC.ann 41 12 = some ([1, 33, 34, 35], [1, 2]) := by kernel_rfl
@[simp] theorem KC_car_41_12 : KC.car 41 12 = false := by kernel_rfl
@[simp] theorem KC_ann_48_11 : KC.ann 48 11 = some ([4, 8, 9, 10, 26, 27, 28], [4, 8, 9]) := by kernel_rfl
@[simp] theorem KC_car_48_11 : KC.car 48 11 = false := by kernel_rfl
@[simp] theorem KC_ann_67_5 : KC.ann 67 5 = some ([11, 12, 13], [4]) := by kernel_rfl
@[simp] theorem KC_car_67_5 : KC.car 67 5 = false := by kernel_rfl
@[simp] theorem KC_ann_82_5 : KC.ann 82 5 = some ([3, 14, 15, 16], [3]) := by kernel_rfl
@[simp] theorem KC_car_82_5 : KC.car 82 5 = false := by kernel_rfl
@[simp] theorem KC_ann_85_4 : KC.ann 85 4 = some ([1, 5, 8, 9, 10], [5]) := by kernel_rfl
@[simp] theorem KC_car_85_4 : KC.car 85 4 = false := by kernel_rfl
@[simp] theorem KC_ann_86_5 : KC.ann 86 5 = some ([0, 1, 5], [4]) := by kernel_rfl
@[simp] theorem KC_car_86_5 : KC.car 86 5 = false := by kernel_rfl
@[simp] theorem KC_ann_119_3 : KC.ann 119 3 = some ([0, 1, 7, 8], [4]) := by kernel_rfl
@[simp] theorem KC_car_119_3 : KC.car 119 3 = false := by kernel_rfl
@[simp] theorem KC_up_12_39 : KC.up 12 39 = .scopes 1 := by kernel_rfl
@[simp] theorem KC_up_36_54 : KC.up 36 54 = .scopes 1 := by kernel_rfl
@[simp] theorem KC_up_36_59 : KC.up 36 59 = .box 7 := by kernel_rfl
@[simp] theorem KC_up_82_29 : KC.up 82 29 = .box 3 := by kernel_rfl
@[simp] theorem KC_up_88_6 : KC.up 88 6 = .box 1 := by kernel_rfl
@[simp] theorem KC_up_108_7 : KC.up 108 7 = .scopes 0 := by kernel_rfl
@[simp] theorem need_12_8 : needT 12 8 = [(8, 5)] := by kernel_rfl
@[simp] theorem need_12_10 : needT 12 10 = [] := by kernel_rfl
@[simp] theorem need_12_12 : needT 12 12 = [] := by kernel_rfl
@[simp] theorem need_12_13 : needT 12 13 = [] := by kernel_rfl
@[simp] theorem need_12_14 : needT 12 14 = [] := by kernel_rfl
@[simp] theorem need_12_16 : needT 12 16 = [] := by kernel_rfl
@[simp] theorem need_14_5 : needT 14 5 = [] := by kernel_rfl
@[simp] theorem need_21_6 : needT 21 6 = [] := by kernel_rfl
@[simp] theorem need_41_16 : needT 41 16 = [(6, 4), (8, 4)] := by kernel_rfl
@[simp] theorem need_48_14 : needT 48 14 = [(5, 4)] := by kernel_rfl
@[simp] theorem need_82_6 : needT 82 6 = [(7, 5)] := by kernel_rfl
@[simp] theorem need_86_6 : needT 86 6 = [] := by kernel_rfl
@[simp] theorem need_121_3 : needT 121 3 = [] := by kernel_rfl
@[simp] theorem need_122_3 : needT 122 3 = [] := by kernel_rfl
@[simp] theorem need_122_4 : needT 122 4 = [] := by kernel_rfl
@[simp] theorem need_122_6 : needT 122 6 = [] := by kernel_rfl
@[simp] theorem need_122_10 : needT 122 10 = [] := by kernel_rfl
@[simp] theorem need_125_1 : needT 125 1 = [] := by kernel_rfl
end
@[simp] theorem ty_agg3 : tagg Try.prog 3 = some false := by kernel_rfl
@[simp] theorem ty_size3 : tsize Try.prog 3 = some 1 := by kernel_rfl
@[simp] theorem ty_agg22 : tagg Try.prog 22 = some false := by kernel_rfl
@[simp] theorem ty_size22 : tsize Try.prog 22 = some 1 := by kernel_rfl
@[simp] theorem ty_elem22 : telemS Try.prog 22 = some (some 1) := by kernel_rfl
@[simp] theorem ty_arr22 : tarrS Try.prog 22 = none := by kernel_rfl
@[simp] theorem ty_app22 : tapp Try.prog 22 = some ((some 1), (some 8), (some 1)) := by kernel_rfl
@[simp] theorem ty_lit22 : tlit Try.prog 22 = some ((some 1), (some [(.pure (.int .i64 0))])) := by kernel_rfl
@[simp] theorem ty_spread22 : spreads Try.prog (some 22) = true := by kernel_rfl
@[simp] theorem ty_agg33 : tagg Try.prog 33 = some false := by kernel_rfl
@[simp] theorem ty_size33 : tsize Try.prog 33 = some 1 := by kernel_rfl
@[simp] theorem ty_agg50 : tagg Try.prog 50 = some false := by kernel_rfl
@[simp] theorem ty_size50 : tsize Try.prog 50 = some 1 := by kernel_rfl
@[simp] theorem ty_elem50 : telemS Try.prog 50 = some (some 1) := by kernel_rfl
@[simp] theorem ty_arr50 : tarrS Try.prog 50 = none := by kernel_rfl
@[simp] theorem ty_app50 : tapp Try.prog 50 = some ((some 1), (some 24), (some 1)) := by kernel_rfl
@[simp] theorem ty_lit50 : tlit Try.prog 50 = some ((some 1), (some [.nils])) := by kernel_rfl
@[simp] theorem ty_spread50 : spreads Try.prog (some 50) = true := by kernel_rfl
@[simp] theorem ty_agg64 : tagg Try.prog 64 = some true := by kernel_rfl
@[simp] theorem ty_size64 : tsize Try.prog 64 = some 4 := by kernel_rfl
@[simp] theorem ty_zero64 : tzero Try.prog 64 = some (.agg [(.pure (.int .i64 0)), (.pure (.int .i64 0)), (.pure (.int .i64 0)), .nils]) := by kernel_rfl
@[simp] theorem ty_arr64 : tarrS Try.prog 64 = none := by kernel_rfl
@[simp] theorem ty_places64 : tplaces Try.prog 64 = some [(0, 1), (1, 1), (2, 1), (3, 1)] := by kernel_rfl
@[simp] theorem ty_agg66 : tagg Try.prog 66 = some true := by kernel_rfl
@[simp] theorem ty_size66 : tsize Try.prog 66 = some 4 := by kernel_rfl
@[simp] theorem ty_zero66 : tzero Try.prog 66 = some (.pure (.agg [(.int .i64 0), (.int .i64 0), (.int .i64 0), (.int .i64 0)])) := by kernel_rfl
@[simp] theorem ty_arr66 : tarrS Try.prog 66 = none := by kernel_rfl
@[simp] theorem ty_places66 : tplaces Try.prog 66 = some [(0, 1), (1, 1), (2, 1), (3, 1)] := by kernel_rfl
@[simp] theorem ty_elem68 : telemS Try.prog 68 = some (some 4) := by kernel_rfl
@[simp] theorem ty_arr68 : tarrS Try.prog 68 = none := by kernel_rfl
@[simp] theorem ty_app68 : tapp Try.prog 68 = some ((some 4), (some 32), (some 4)) := by kernel_rfl
@[simp] theorem ty_lit68 : tlit Try.prog 68 = some ((some 4), (some [(.pure (.int .i64 0)), (.pure (.int .i64 0)), (.pure (.int .i64 0)), (.pure (.int .i64 0))])) := by kernel_rfl
@[simp] theorem ty_spread68 : spreads Try.prog (some 68) = true := by kernel_rfl
@[simp] theorem ty_agg81 : tagg Try.prog 81 = some false := by kernel_rfl
@[simp] theorem ty_size81 : tsize Try.prog 81 = some 1 := by kernel_rfl
@[simp] theorem ty_zero81 : tzero Try.prog 81 = some .nils := by kernel_rfl
@[simp] theorem ty_elem81 : telemS Try.prog 81 = some (some 1) := by kernel_rfl
@[simp] theorem ty_arr81 : tarrS Try.prog 81 = none := by kernel_rfl
@[simp] theorem ty_app81 : tapp Try.prog 81 = some ((some 1), (some 8), (some 1)) := by kernel_rfl
@[simp] theorem ty_lit81 : tlit Try.prog 81 = some ((some 1), (some [(.pure (.int .i64 0))])) := by kernel_rfl
@[simp] theorem ty_spread81 : spreads Try.prog (some 81) = true := by kernel_rfl
@[simp] theorem ty_agg89 : tagg Try.prog 89 = some false := by kernel_rfl
@[simp] theorem ty_size89 : tsize Try.prog 89 = some 1 := by kernel_rfl
@[simp] theorem ty_zero91 : tzero Try.prog 91 = some (.pure (.agg [(.int .u64 0)])) := by kernel_rfl
@[simp] theorem ty_arr91 : tarrS Try.prog 91 = none := by kernel_rfl
@[simp] theorem ty_places91 : tplaces Try.prog 91 = some [(0, 1)] := by kernel_rfl
@[simp] theorem ty_zero128 : tzero Try.prog 128 = some (.agg [(.pure (.int .i64 0)), (.pure (.int .i64 0)), (.pure (.int .i64 0)), .nils]) := by kernel_rfl
@[simp] theorem ty_arr128 : tarrS Try.prog 128 = none := by kernel_rfl
@[simp] theorem ty_places128 : tplaces Try.prog 128 = some [(0, 4)] := by kernel_rfl
@[simp] theorem ty_mz165 : tmz Try.prog 165 = some (3, (some (.pure .nilf))) := by kernel_rfl
@[simp] theorem ty_map165 : tmap Try.prog 165 = some (3, 126) := by kernel_rfl
@[simp] theorem ty_fs64_0 : tfs Try.prog 64 0 = some (0, (some 1)) := by kernel_rfl
@[simp] theorem ty_fs64_1 : tfs Try.prog 64 1 = some (1, (some 1)) := by kernel_rfl
@[simp] theorem ty_fs64_2 : tfs Try.prog 64 2 = some (2, (some 1)) := by kernel_rfl
@[simp] theorem ty_fs64_3 : tfs Try.prog 64 3 = some (3, (some 1)) := by kernel_rfl
@[simp] theorem ty_fs66_0 : tfs Try.prog 66 0 = some (0, (some 1)) := by kernel_rfl
@[simp] theorem ty_fs66_1 : tfs Try.prog 66 1 = some (1, (some 1)) := by kernel_rfl
@[simp] theorem ty_fs66_2 : tfs Try.prog 66 2 = some (2, (some 1)) := by kernel_rfl
@[simp] theorem ty_fs66_3 : tfs Try.prog 66 3 = some (3, (some 1)) := by kernel_rfl
@[simp] theorem ty_fs91_0 : tfs Try.prog 91 0 = some (0, (some 1)) := by kernel_rfl
@[simp] theorem ty_fs128_0 : tfs Try.prog 128 0 = some (0, (some 4)) := by kernel_rfl
attribute [simp] Try.results2 Try.ntmps2
attribute [simp] Try.results3 Try.ntmps3
attribute [simp] Try.results4 Try.ntmps4
attribute [simp] Try.results5 Try.ntmps5
attribute [simp] Try.results6 Try.ntmps6
attribute [simp] Try.results7 Try.ntmps7
attribute [simp] Try.results8 Try.ntmps8
attribute [simp] Try.results9 Try.ntmps9
attribute [simp] Try.results10 Try.ntmps10
attribute [simp] Try.results11 Try.ntmps11
attribute [simp] Try.results12 Try.ntmps12
attribute [simp] Try.results13 Try.ntmps13
attribute [simp] Try.results14 Try.ntmps14
attribute [simp] Try.results15 Try.ntmps15
attribute [simp] Try.results16 Try.ntmps16
attribute [simp] Try.results17 Try.ntmps17
attribute [simp] Try.results18 Try.ntmps18
attribute [simp] Try.results19 Try.ntmps19
attribute [simp] Try.results20 Try.ntmps20
attribute [simp] Try.results21 Try.ntmps21
attribute [simp] Try.results22 Try.ntmps22
attribute [simp] Try.results23 Try.ntmps23
attribute [simp] Try.results24 Try.ntmps24
attribute [simp] Try.results25 Try.ntmps25
attribute [simp] Try.results26 Try.ntmps26
attribute [simp] Try.results27 Try.ntmps27
attribute [simp] Try.results28 Try.ntmps28
attribute [simp] Try.results29 Try.ntmps29
attribute [simp] Try.results30 Try.ntmps30
attribute [simp] Try.results31 Try.ntmps31
attribute [simp] Try.results32 Try.ntmps32
attribute [simp] Try.results33 Try.ntmps33
attribute [simp] Try.results34 Try.ntmps34
attribute [simp] Try.results35 Try.ntmps35
attribute [simp] Try.results36 Try.ntmps36
attribute [simp] Try.results37 Try.ntmps37
attribute [simp] Try.results38 Try.ntmps38
attribute [simp] Try.results39 Try.ntmps39
attribute [simp] Try.results40 Try.ntmps40
attribute [simp] Try.results41 Try.ntmps41
attribute [simp] Try.results42 Try.ntmps42
attribute [simp] Try.results43 Try.ntmps43
attribute [simp] Try.results44 Try.ntmps44
attribute [simp] Try.results45 Try.ntmps45
attribute [simp] Try.results46 Try.ntmps46
attribute [simp] Try.results47 Try.ntmps47
attribute [simp] Try.results48 Try.ntmps48
attribute [simp] Try.results49 Try.ntmps49
attribute [simp] Try.results50 Try.ntmps50
attribute [simp] Try.results51 Try.ntmps51
attribute [simp] Try.results52 Try.ntmps52
attribute [simp] Try.results53 Try.ntmps53
attribute [simp] Try.results54 Try.ntmps54
attribute [simp] Try.results55 Try.ntmps55
attribute [simp] Try.results56 Try.ntmps56
attribute [simp] Try.results57 Try.ntmps57
attribute [simp] Try.results58 Try.ntmps58
attribute [simp] Try.results59 Try.ntmps59
attribute [simp] Try.results60 Try.ntmps60
attribute [simp] Try.results61 Try.ntmps61
attribute [simp] Try.results62 Try.ntmps62
attribute [simp] Try.results63 Try.ntmps63
attribute [simp] Try.results64 Try.ntmps64
attribute [simp] Try.results65 Try.ntmps65
attribute [simp] Try.results66 Try.ntmps66
attribute [simp] Try.results67 Try.ntmps67
attribute [simp] Try.results68 Try.ntmps68
attribute [simp] Try.results69 Try.ntmps69
attribute [simp] Try.results70 Try.ntmps70
attribute [simp] Try.results71 Try.ntmps71
attribute [simp] Try.results72 Try.ntmps72
attribute [simp] Try.results73 Try.ntmps73
attribute [simp] Try.results74 Try.ntmps74
attribute [simp] Try.results75 Try.ntmps75
attribute [simp] Try.results76 Try.ntmps76
attribute [simp] Try.results77 Try.ntmps77
attribute [simp] Try.results78 Try.ntmps78
attribute [simp] Try.results79 Try.ntmps79
attribute [simp] Try.results80 Try.ntmps80
attribute [simp] Try.results81 Try.ntmps81
attribute [simp] Try.results82 Try.ntmps82
attribute [simp] Try.results83 Try.ntmps83
attribute [simp] Try.results84 Try.ntmps84
attribute [simp] Try.results85 Try.ntmps85
attribute [simp] Try.results86 Try.ntmps86
attribute [simp] Try.results87 Try.ntmps87
attribute [simp] Try.results88 Try.ntmps88
attribute [simp] Try.results89 Try.ntmps89
attribute [simp] Try.results90 Try.ntmps90
attribute [simp] Try.results91 Try.ntmps91
attribute [simp] Try.results92 Try.ntmps92
attribute [simp] Try.results93 Try.ntmps93
attribute [simp] Try.results94 Try.ntmps94
attribute [simp] Try.results95 Try.ntmps95
attribute [simp] Try.results96 Try.ntmps96
attribute [simp] Try.results97 Try.ntmps97
attribute [simp] Try.results98 Try.ntmps98
attribute [simp] Try.results99 Try.ntmps99
attribute [simp] Try.results100 Try.ntmps100
attribute [simp] Try.results101 Try.ntmps101
attribute [simp] Try.results102 Try.ntmps102
attribute [simp] Try.results103 Try.ntmps103
attribute [simp] Try.results104 Try.ntmps104
attribute [simp] Try.results105 Try.ntmps105
attribute [simp] Try.results106 Try.ntmps106
attribute [simp] Try.results107 Try.ntmps107
attribute [simp] Try.results108 Try.ntmps108
attribute [simp] Try.results109 Try.ntmps109
attribute [simp] Try.results110 Try.ntmps110
attribute [simp] Try.results111 Try.ntmps111
attribute [simp] Try.results112 Try.ntmps112
attribute [simp] Try.results113 Try.ntmps113
attribute [simp] Try.results114 Try.ntmps114
attribute [simp] Try.results115 Try.ntmps115
attribute [simp] Try.results116 Try.ntmps116
attribute [simp] Try.results117 Try.ntmps117
attribute [simp] Try.results118 Try.ntmps118
attribute [simp] Try.results119 Try.ntmps119
attribute [simp] Try.results120 Try.ntmps120
attribute [simp] Try.results121 Try.ntmps121
attribute [simp] Try.results122 Try.ntmps122
attribute [simp] Try.results123 Try.ntmps123
attribute [simp] Try.results124 Try.ntmps124
attribute [simp] Try.results125 Try.ntmps125
attribute [simp] Try.results126 Try.ntmps126
attribute [simp] Try.results127 Try.ntmps127
attribute [simp] Try.results128 Try.ntmps128
attribute [simp] Try.results129 Try.ntmps129
attribute [simp] Try.results130 Try.ntmps130
attribute [simp] Try.results131 Try.ntmps131
attribute [simp] Try.results132 Try.ntmps132
attribute [simp] Try.results133 Try.ntmps133
attribute [simp] Try.results134 Try.ntmps134
attribute [simp] Try.results135 Try.ntmps135
attribute [simp] Try.results136 Try.ntmps136
attribute [simp] Try.results137 Try.ntmps137
attribute [simp] Try.results138 Try.ntmps138
attribute [simp] Try.results139 Try.ntmps139
attribute [simp] Try.results140 Try.ntmps140
attribute [simp] Try.results141 Try.ntmps141
attribute [simp] Try.results142 Try.ntmps142
attribute [simp] Try.results143 Try.ntmps143
attribute [simp] Try.results144 Try.ntmps144
attribute [simp] Try.results145 Try.ntmps145
attribute [simp] Try.results146 Try.ntmps146
attribute [simp] Try.results147 Try.ntmps147
attribute [simp] Try.results148 Try.ntmps148
attribute [simp] Try.results149 Try.ntmps149
attribute [simp] Try.results150 Try.ntmps150
attribute [simp] Try.results151 Try.ntmps151
attribute [simp] Try.results152 Try.ntmps152
end Go.Gh


/- The drawn regions of the functions may be walked in the text's order (made by program). -/
namespace Go.Gh
open Go.Proofs
theorem good12 : good KC needT 12 (Try.f12.body.getD .skip) = true := by kernel_rfl
theorem good14 : good KC needT 14 (Try.f14.body.getD .skip) = true := by kernel_rfl
theorem good21 : good KC needT 21 (Try.f21.body.getD .skip) = true := by kernel_rfl
theorem good25 : good KC needT 25 (Try.f25.body.getD .skip) = true := by kernel_rfl
theorem good32 : good KC needT 32 (Try.f32.body.getD .skip) = true := by kernel_rfl
theorem good36 : good KC needT 36 (Try.f36.body.getD .skip) = true := by kernel_rfl
theorem good41 : good KC needT 41 (Try.f41.body.getD .skip) = true := by kernel_rfl
theorem good43 : good KC needT 43 (Try.f43.body.getD .skip) = true := by kernel_rfl
theorem good48 : good KC needT 48 (Try.f48.body.getD .skip) = true := by kernel_rfl
theorem good49 : good KC needT 49 (Try.f49.body.getD .skip) = true := by kernel_rfl
theorem good54 : good KC needT 54 (Try.f54.body.getD .skip) = true := by kernel_rfl
theorem good56 : good KC needT 56 (Try.f56.body.getD .skip) = true := by kernel_rfl
theorem good67 : good KC needT 67 (Try.f67.body.getD .skip) = true := by kernel_rfl
theorem good77 : good KC needT 77 (Try.f77.body.getD .skip) = true := by kernel_rfl
theorem good82 : good KC needT 82 (Try.f82.body.getD .skip) = true := by kernel_rfl
theorem good83 : good KC needT 83 (Try.f83.body.getD .skip) = true := by kernel_rfl
theorem good85 : good KC needT 85 (Try.f85.body.getD .skip) = true := by kernel_rfl
theorem good86 : good KC needT 86 (Try.f86.body.getD .skip) = true := by kernel_rfl
theorem good88 : good KC needT 88 (Try.f88.body.getD .skip) = true := by kernel_rfl
theorem good108 : good KC needT 108 (Try.f108.body.getD .skip) = true := by kernel_rfl
theorem good119 : good KC needT 119 (Try.f119.body.getD .skip) = true := by kernel_rfl
theorem good121 : good KC needT 121 (Try.f121.body.getD .skip) = true := by kernel_rfl
theorem good122 : good KC needT 122 (Try.f122.body.getD .skip) = true := by kernel_rfl
theorem good123 : good KC needT 123 (Try.f123.body.getD .skip) = true := by kernel_rfl
theorem good124 : good KC needT 124 (Try.f124.body.getD .skip) = true := by kernel_rfl
theorem good125 : good KC needT 125 (Try.f125.body.getD .skip) = true := by kernel_rfl
theorem good126 : good KC needT 126 (Try.f126.body.getD .skip) = true := by kernel_rfl
theorem good149 : good KC needT 149 (Try.f149.body.getD .skip) = true := by kernel_rfl
end Go.Gh
