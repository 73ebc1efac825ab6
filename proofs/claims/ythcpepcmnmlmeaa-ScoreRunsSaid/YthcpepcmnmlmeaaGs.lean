/- The context of a seat: annotations of its functions, facts on its types (made by program). -/
import Derived.Test.YthcpepcmnmlmeaaGw
import Derived.Test.YthcpepcmnmlmeaaProg
import Derived.KernelRfl
namespace Go.Gh
open Go.Proofs
set_option linter.unusedSimpArgs false
set_option linter.unusedVariables false
def annT : List (Nat × Nat × List Nat × List Nat) := [(4, 9, [12, 13, 14, 15], [8]), (5, 9, [1, 2, 4, 9, 10, 11, 12, 13], [1, 2, 4, 10, 11, 12]), (5, 14, [14, 15, 16, 17], [8]), (6, 9, [9, 10, 11], [6]), (6, 12, [9, 10, 11, 12], [6, 9, 10, 11]), (7, 7, [4, 5, 6, 7, 8, 9], [4, 5, 6, 8]), (9, 8, [4, 6, 7, 8, 9, 10, 11], [4, 7, 8, 9, 10]), (10, 6, [3, 4, 5, 6, 7], [3, 4, 5, 6]), (10, 13, [3, 4, 5, 6, 8, 9, 11], [2, 3, 4, 5, 6, 9]), (10, 17, [3, 4, 5, 6, 8, 9, 11, 12, 13], [2, 3, 4, 5, 6, 8, 9, 11, 12]), (10, 22, [3, 4, 5, 6, 8, 9, 11, 12, 13, 14], [2, 3, 4, 5, 6, 8, 9, 11, 12, 13]), (10, 33, [4, 5, 6, 9, 15, 16, 17], [4, 5, 6, 9, 15, 16]), (10, 40, [9, 15, 19, 21], [2]), (11, 10, [4, 5, 6, 7, 9, 10], [4, 6, 9]), (11, 18, [12, 14], [2]), (12, 7, [3, 4, 5, 6], [3, 4, 5]), (13, 10, [15, 16, 17, 18, 19], [10]), (13, 19, [15, 16, 17, 18, 19, 27, 28], [10, 15, 16, 17, 18, 19]), (14, 4, [0, 3, 4], [3]), (15, 4, [0, 2, 3, 8, 9, 10], [0, 2, 3, 8, 9]), (15, 12, [0, 2, 3, 8, 9, 11, 12, 13, 14, 15, 16], [0, 2, 3, 8, 9, 12, 14, 15]), (16, 5, [2, 3, 4, 5], [2, 3]), (17, 7, [1, 2, 7, 26, 27, 28], [1, 2, 7]), (17, 17, [1, 12, 13, 46, 47, 48], [4, 5, 13]), (17, 23, [1, 12, 13, 15, 16, 17, 46, 47, 48], [1, 4, 5, 12, 13, 46, 47, 48]), (17, 29, [1, 12, 13, 15, 16, 17, 18, 19, 46, 47, 48], [1, 12, 13, 15, 16, 17, 18, 46, 47, 48]), (18, 5, [0, 5, 6, 7], [6]), (21, 5, [0, 1, 5], [4]), (24, 5, [0, 1, 5, 6, 7], [5]), (26, 5, [0, 1, 5, 6, 7, 8], [7]), (29, 3, [1, 17, 18], [1, 2]), (29, 11, [1, 30, 31, 32], [2]), (30, 4, [1, 3, 4], [1, 2]), (30, 11, [1, 5], [2]), (30, 16, [1, 5, 6], [1, 2, 5]), (31, 3, [0, 3], [0, 2]), (33, 11, [1, 3, 6, 7, 30, 31, 32], [3, 6, 7, 8]), (33, 19, [3, 6, 7, 53, 54], [6, 7]), (33, 23, [3, 6, 7, 14, 15, 53, 54, 58, 59], [3, 6, 7, 15, 53, 54]), (34, 12, [1, 2, 3, 11, 12], [3, 6, 7, 8, 11]), (34, 20, [3, 11, 14, 15], [11, 14]), (34, 24, [3, 11, 14, 15, 16, 17], [3, 11, 14, 15, 16]), (35, 5, [0, 1, 5], [4]), (36, 7, [0, 6, 7, 8], [6, 7]), (36, 11, [0, 6, 7, 8, 9, 10], [0, 6, 7, 8, 9]), (37, 4, [0, 4, 7, 8], [7]), (38, 5, [1, 2, 3, 4], [1, 2]), (41, 12, [1, 33, 34, 35], [1, 2]), (42, 11, [1, 3], [1, 2]), (42, 17, [1, 3, 5], [1, 2, 3]), (44, 4, [0, 1, 5, 6], [5]), (46, 3, [0, 1, 5], [4]), (48, 11, [4, 8, 9, 10, 26, 27, 28], [4, 8, 9]), (50, 9, [1, 2, 4, 8, 9], [2, 4, 8]), (51, 5, [0, 1, 5], [4]), (55, 4, [0, 5, 6], [5]), (57, 7, [1, 25, 26, 27], [1, 2]), (57, 12, [1, 4, 25, 26, 27, 39, 40, 41], [1, 2, 4, 25, 26, 27]), (57, 24, [7, 8, 67, 68, 69], [2, 7]), (59, 7, [2, 3, 4, 28, 29], [2, 3, 4]), (61, 4, [5, 10, 11], [5]), (62, 6, [3, 4, 5, 6], [3]), (65, 13, [9, 37, 38, 39], [9]), (65, 22, [12, 59, 60, 61], [12]), (66, 8, [3, 14, 15, 16], [2]), (67, 5, [11, 12, 13], [4]), (68, 5, [2, 3, 4, 5, 6, 7, 17, 18], [2, 3, 4, 5, 6]), (68, 10, [2, 3, 4, 5, 6, 7, 8, 9, 17, 18, 28, 29], [2, 3, 4, 5, 6, 7, 8, 9, 17, 18]), (69, 7, [0, 1, 7, 24, 25], [0, 1, 7]), (69, 13, [0, 1, 7, 9, 48, 49], [0, 1, 7, 9]), (69, 19, [0, 1, 7, 9, 59, 60], [0, 9]), (69, 23, [0, 1, 7, 11, 12, 59, 60, 65, 66, 67], [0, 1, 7, 12, 59, 60]), (69, 27, [0, 1, 7, 11, 12, 13, 14, 59, 60, 65, 66, 67, 75, 76], [0, 1, 7, 11, 12, 59, 60, 65, 66, 67]), (74, 8, [0, 3, 4], [2]), (75, 5, [0, 1, 5], [4]), (76, 5, [1, 2, 3, 6, 7, 8, 9, 10], [1, 2, 3, 6, 7, 8, 9]), (76, 16, [1, 2, 3, 6, 7, 8, 9, 10, 11], [1, 2, 3, 6, 7, 8, 9, 10]), (76, 20, [1, 2, 3, 6, 7, 8, 9], [1, 2, 3, 6, 7, 8, 9]), (80, 4, [1, 2, 3, 9, 15, 16, 17], [8]), (81, 3, [1, 2, 3, 4, 9], [8]), (82, 5, [3, 14, 15, 16], [3]), (85, 4, [1, 5, 8, 9, 10], [5]), (86, 5, [0, 1, 5], [4]), (87, 5, [3, 4, 10, 11, 12], [4]), (89, 5, [1, 2, 3, 4], [1, 2]), (91, 3, [0, 6, 7, 8], [0, 2]), (94, 4, [1, 3, 4], [3]), (94, 10, [1, 3, 4, 5, 6], [1, 3, 4]), (96, 4, [1, 2, 5, 6], [5]), (98, 3, [1, 2, 3, 7], [6]), (99, 7, [2, 3, 4, 5], [2, 4]), (100, 4, [3, 7, 8, 9], [3]), (103, 4, [1, 5, 8, 9, 10], [5]), (113, 6, [0, 3, 4], [3]), (114, 4, [0, 3, 4, 5], [3]), (114, 7, [0, 3, 4, 5, 6], [0, 3, 4, 5, 6]), (115, 3, [0, 1, 2, 7], [1, 2, 6]), (116, 3, [0, 1, 2, 7], [1, 2, 6]), (119, 3, [0, 1, 7, 8], [4]), (134, 4, [3, 9, 10, 11], [3]), (134, 8, [3, 5, 6, 7, 9, 10, 11, 20, 21], [3, 5, 6, 9, 10, 11]), (135, 3, [0, 1, 7, 8], [4]), (136, 3, [0, 1, 7, 8], [4]), (139, 6, [0, 1, 2, 3, 9, 10], [9]), (140, 4, [0, 3, 4], [3]), (152, 4, [0, 1, 2, 3, 9, 10], [9])]
def upT : List (Nat × Nat × Up) := [(5, 57, .scopes 1), (6, 31, .scopes 0), (7, 49, .scopes 1), (10, 41, .scopes 1), (10, 160, .scopes 1), (11, 83, .scopes 1), (12, 39, .scopes 1), (15, 42, .box 9), (15, 78, .box 9), (15, 103, .box 9), (15, 129, .box 9), (15, 164, .box 9), (15, 205, .box 9), (15, 236, .box 9), (15, 252, .box 9), (16, 42, .box 3), (17, 62, .scopes 1), (17, 118, .scopes 2), (18, 24, .scopes 1), (24, 23, .scopes 1), (26, 40, .scopes 1), (27, 5, .scopes 0), (33, 50, .scopes 1), (33, 73, .scopes 1), (34, 56, .scopes 1), (34, 79, .scopes 1), (36, 54, .scopes 1), (36, 59, .box 7), (37, 47, .scopes 1), (38, 22, .box 1), (44, 20, .scopes 1), (50, 43, .scopes 1), (55, 24, .scopes 1), (62, 29, .scopes 1), (65, 50, .scopes 1), (82, 29, .box 3), (87, 32, .scopes 1), (88, 6, .box 1), (89, 21, .box 1), (89, 23, .box 1), (94, 37, .scopes 2), (103, 21, .scopes 1), (108, 7, .scopes 0), (114, 40, .scopes 1), (114, 44, .scopes 1), (134, 28, .scopes 2), (134, 39, .scopes 1)]
def annOf (f r : Nat) : Option (List Nat × List Nat) := (annT.find? fun x => x.1 == f && x.2.1 == r).map fun x => x.2.2
def upOf (f d : Nat) : Up := ((upT.find? fun x => x.1 == f && x.2.1 == d).map fun x => x.2.2).getD (.scopes 0)
def needL : List (Nat × Nat × List (Nat × Nat)) := [(3, 4, [(3, 0)]), (3, 5, [(3, 0)]), (3, 13, [(14, 10)]), (4, 6, [(13, 0), (13, 1), (13, 2), (13, 3), (17, 0), (17, 1), (17, 2), (17, 3)]), (4, 10, [(8, 4), (14, 4), (14, 9)]), (4, 13, [(8, 4)]), (6, 5, [(3, 2)]), (6, 16, [(5, 1)]), (10, 23, [(24, 20), (27, 20), (30, 20)]), (12, 8, [(8, 5)]), (13, 7, [(7, 0), (7, 1), (7, 2), (10, 7), (11, 7), (12, 7)]), (15, 16, [(6, 1)]), (15, 23, [(7, 1)]), (15, 45, [(6, 1)]), (17, 24, [(6, 2)]), (37, 5, [(7, 2), (7, 4), (8, 2), (8, 4), (13, 2), (13, 4), (13, 10)]), (38, 6, [(6, 1)]), (41, 16, [(6, 4), (8, 4)]), (48, 14, [(5, 4)]), (55, 5, [(3, 1), (7, 3), (7, 5)]), (57, 21, [(5, 1), (5, 2)]), (62, 9, [(12, 0), (12, 5)]), (81, 4, [(14, 10), (17, 10), (20, 10)]), (82, 6, [(7, 5)]), (84, 1, [(4, 1)]), (89, 6, [(7, 1)]), (99, 8, [(21, 4)]), (117, 1, [(20, 16), (24, 16)]), (142, 1, [(6, 5), (10, 5)])]
def needT (f r : Nat) : List (Nat × Nat) := ((needL.find? fun x => x.1 == f && x.2.1 == r).map fun x => x.2.2).getD []
def eqsOf : Nat → Option (List SK)
  | 41 => some [.int .i64, .int .i64, .int .i64, .int .i64, .int .i64, .int .i64, .int .i64, .int .i64]
  | 95 => some [.int .i64, .int .i64, .int .i64, .int .i64, .int .i64]
  | _ => none
@[simp] theorem eqsOf_41 : eqsOf 41 = some [.int .i64, .int .i64, .int .i64, .int .i64, .int .i64, .int .i64, .int .i64, .int .i64] := .trans rfl rfl
def keepL : List Nat := [14, 37, 82, 89, 108]
def frzL : List Nat := [33, 34, 48, 50, 73, 108]
def borL : List Nat := [20, 28, 80, 81, 113, 67, 75]
def clnL : List Nat := [108]
def ownL : List (Nat × Nat) := []
def carL : List (Nat × Nat) := []
def liftOf (f d : Nat) : Option Nat := if f = 82 ∧ d = 27 then some 3 else none
def rowOf (f d : Nat) : Option Nat := if f = 82 then (if d = 27 then some 77 else if d = 29 then some 77 else none) else if f = 89 then (if d = 21 then some 77 else if d = 23 then some 77 else none) else none
/-- The context; its second one has no function that is trusted with empty slices. -/
noncomputable def KC0 (cl : List Nat) : Ctx := { P := Try.prog, keep := fun f => keepL.contains f, ann := annOf, up := upOf, own := fun f d => ownL.contains (f, d), frz := fun f => frzL.contains f, bor := fun f => borL.contains f, car := fun f r => carL.contains (f, r), cln := fun f => cl.contains f, lift := liftOf, row := rowOf, eqs := eqsOf }
noncomputable def KC : Ctx := KC0 clnL
section
@[simp] theorem KC_P : KC.P = Try.prog := .trans rfl rfl
@[simp] theorem KC_own {f d : Nat} : KC.own f d = ownL.contains (f, d) := .trans rfl rfl
@[simp] theorem KC_lift {f d : Nat} : KC.lift f d = liftOf f d := .trans rfl rfl
@[simp] theorem KC_row {f d : Nat} : KC.row f d = rowOf f d := .trans rfl rfl
attribute [simp] liftOf rowOf ownL
@[simp] theorem KC_ann_13_10 : KC.ann 13 10 = some ([15, 16, 17, 18, 19], [10]) := by kernel_rfl
@[simp] theorem KC_car_13_10 : KC.car 13 10 = false := by kernel_rfl
@[simp] theorem KC_ann_13_19 : KC.ann 13 19 = some ([15, 16, 17, 18, 19, 27, 28], [10, 15, 16, 17, 18, 19]) := by kernel_rfl
@[simp] theorem KC_car_13_19 : KC.car 13 19 = false := by kernel_rfl
@[simp] theorem KC_ann_14_4 : KC.ann 14 4 = some ([0, 3, 4], [3]) := by kernel_rfl
@[simp] theorem KC_car_14_4 : KC.car 14 4 = false := by kernel_rfl
@[simp] theorem KC_ann_16_5 : KC.ann 16 5 = some ([2, 3, 4, 5], [2, 3]) := by kernel_rfl
@[simp] theorem KC_car_16_5 : KC.car 16 5 = false := by kernel_rfl
@[simp] theorem KC_ann_21_5 : KC.ann 21 5 = some ([0, 1, 5], [4]) := by kernel_rfl
@[simp] theorem KC_car_21_5 : KC.car 21 5 = false := by kernel_rfl
@[simp] theorem KC_ann_24_5 : KC.ann 24 5 = some ([0, 1, 5, 6, 7], [5]) := by kernel_rfl
@[simp] theorem KC_car_24_5 : KC.car 24 5 = false := by kernel_rfl
@[simp] theorem KC_ann_29_3 : KC.ann 29 3 = some ([1, 17, 18], [1, 2]) := by kernel_rfl
@[simp] theorem KC_car_29_3 : KC.car 29 3 = false := by kernel_rfl
@[simp] theorem KC_ann_29_11 : KC.ann 29 11 = some ([1, 30, 31, 32], [2]) := by kernel_rfl
@[simp] theorem KC_car_29_11 : KC.car 29 11 = false := by kernel_rfl
@[simp] theorem KC_ann_30_4 : KC.ann 30 4 = some ([1, 3, 4], [1, 2]) := by kernel_rfl
@[simp] theorem KC_car_30_4 : KC.car 30 4 = false := by kernel_rfl
@[simp] theorem KC_ann_30_11 : KC.ann 30 11 = some ([1, 5], [2]) := by kernel_rfl
@[simp] theorem KC_car_30_11 : KC.car 30 11 = false := by kernel_rfl
@[simp] theorem KC_ann_30_16 : KC.ann 30 16 = some ([1, 5, 6], [1, 2, 5]) := by kernel_rfl
@[simp] theorem KC_car_30_16 : KC.car 30 16 = false := by kernel_rfl
@[simp] theorem KC_ann_31_3 : KC.ann 31 3 = some ([0, 3], [0, 2]) := by kernel_rfl
@[simp] theorem KC_car_31_3 : KC.car 31 3 = false := by kernel_rfl
@[simp] theorem KC_ann_33_11 : KC.ann 33 11 = some ([1, 3, 6, 7, 30, 31, 32], [3, 6, 7, 8]) := by kernel_rfl
@[simp] theorem KC_car_33_11 : KC.car 33 11 = false := by kernel_rfl
@[simp] theorem KC_ann_33_19 : KC.ann 33 19 = some ([3, 6, 7, 53, 54], [6, 7]) := by kernel_rfl
@[simp] theorem KC_car_33_19 : KC.car 33 19 = false := by kernel_rfl
@[simp] theorem KC_ann_33_23 : KC.ann 33 23 = some ([3, 6, 7, 14, 15, 53, 54, 58, 59], [3, 6, 7, 15, 53, 54]) := by kernel_rfl
@[simp] theorem KC_car_33_23 : KC.car 33 23 = false := by kernel_rfl
@[simp] theorem KC_ann_34_12 : KC.ann 34 12 = some ([1, 2, 3, 11, 12], [3, 6, 7, 8, 11]) := by kernel_rfl
@[simp] theorem KC_car_34_12 : KC.car 34 12 = false := by kernel_rfl
@[simp] theorem KC_ann_34_20 : KC.ann 34 20 = some ([3, 11, 14, 15], [11, 14]) := by kernel_rfl
@[simp] theorem KC_car_34_20 : KC.car 34 20 = false := by kernel_rfl
@[simp] theorem KC_ann_34_24 : KC.ann 34 24 = some ([3, 11, 14, 15, 16, 17], [3, 11, 14, 15, 16]) := by kernel_rfl
@[simp] theorem KC_car_34_24 : KC.car 34 24 = false := by kernel_rfl
@[simp] theorem KC_ann_35_5 : KC.ann 35 5 = some ([0, 1, 5], [4]) := by kernel_rfl
@[simp] theorem KC_car_35_5 : KC.car 35 5 = false := by kernel_rfl
@[simp] theorem KC_ann_36_7 : KC.ann 36 7 = some ([0, 6, 7, 8], [6, 7]) := by kernel_rfl
@[simp] theorem KC_car_36_7 : KC.car 36 7 = false := by kernel_rfl
@[simp] theorem KC_ann_36_11 : KC.ann 36 11 = some ([0, 6, 7, 8, 9, 10], [0, 6, 7, 8, 9]) := by kernel_rfl
@[simp] theorem KC_car_36_11 : KC.car 36 11 = false := by kernel_rfl
@[simp] theorem KC_ann_37_4 : KC.ann 37 4 = some ([0, 4, 7, 8], [7]) := by kernel_rfl
@[simp] theorem KC_car_37_4 : KC.car 37 4 = false := by kernel_rfl
@[simp] theorem KC_ann_38_5 : KC.ann 38 5 = some ([1, 2, 3, 4], [1, 2]) := by kernel_rfl
@[simp] theorem KC_car_38_5 : KC.car 38 5 = false := by kernel_rfl
@[simp] theorem KC_ann_41_12 : KC.ann 41 12 = some ([1, 33, 34, 35], [1, 2]) := by kernel_rfl
@[simp] theorem KC_car_41_12 : KC.car 41 12 = false := by kernel_rfl
@[simp] theorem KC_ann_42_11 : KC.ann 42 11 = some ([1, 3], [1, 2]) := by kernel_rfl
@[simp] theorem KC_car_42_11 : KC.car 42 11 = false := by kernel_rfl
@[simp] theorem KC_ann_42_17 : KC.ann 42 17 = some ([1, 3, 5], [1, 2, 3]) := by kernel_rfl
@[simp] theorem KC_car_42_17 : KC.car 42 17 = false := by kernel_rfl
@[simp] theorem KC_ann_44_4 : KC.ann 44 4 = some ([0, 1, 5, 6], [5]) := by kernel_rfl
@[simp] theorem KC_car_44_4 : KC.car 44 4 = false := by kernel_rfl
@[simp] theorem KC_ann_48_11 : KC.ann 48 11 = some ([4, 8, 9, 10, 26, 27, 28], [4, 8, 9]) := by kernel_rfl
@[simp] theorem KC_car_48_11 : KC.car 48 11 = false := by kernel_rfl
@[simp] theorem KC_ann_50_9 : KC.ann 50 9 = some ([1, 2, 4, 8, 9], [2, 4, 8]) := by kernel_rfl
@[simp] theorem KC_car_50_9 : KC.car 50 9 = false := by kernel_rfl
@[simp] theorem KC_ann_51_5 : KC.ann 51 5 = some ([0, 1, 5], [4]) := by kernel_rfl
@[simp] theorem KC_car_51_5 : KC.car 51 5 = false := by kernel_rfl
@[simp] theorem KC_ann_66_8 : KC.ann 66 8 = some ([3, 14, 15, 16], [2]) := by kernel_rfl
@[simp] theorem KC_car_66_8 : KC.car 66 8 = false := by kernel_rfl
@[simp] theorem KC_ann_67_5 : KC.ann 67 5 = some ([11, 12, 13], [4]) := by kernel_rfl
@[simp] theorem KC_car_67_5 : KC.car 67 5 = false := by kernel_rfl
@[simp] theorem KC_ann_68_5 : KC.ann 68 5 = some ([2, 3, 4, 5, 6, 7, 17, 18], [2, 3, 4, 5, 6]) := by kernel_rfl
@[simp] theorem KC_car_68_5 : KC.car 68 5 = false := by kernel_rfl
@[simp] theorem KC_ann_68_10 : KC.ann 68 10 = some ([2, 3, 4, 5, 6, 7, 8, 9, 17, 18, 28, 29], [2, 3, 4, 5, 6, 7, 8, 9, 17, 18]) := by kernel_rfl
@[simp] theorem KC_car_68_10 : KC.car 68 10 = false := by kernel_rfl
@[simp] theorem KC_ann_69_7 : KC.ann 69 7 = some ([0, 1, 7, 24, 25], [0, 1, 7]) := by kernel_rfl
@[simp] theorem KC_car_69_7 : KC.car 69 7 = false := by kernel_rfl
@[simp] theorem KC_ann_69_13 : KC.ann 69 13 = some ([0, 1, 7, 9, 48, 49], [0, 1, 7, 9]) := by kernel_rfl
@[simp] theorem KC_car_69_13 : KC.car 69 13 = false := by kernel_rfl
@[simp] theorem KC_ann_69_19 : KC.ann 69 19 = some ([0, 1, 7, 9, 59, 60], [0, 9]) := by kernel_rfl
@[simp] theorem KC_car_69_19 : KC.car 69 19 = false := by kernel_rfl
@[simp] theorem KC_ann_69_23 : KC.ann 69 23 = some ([0, 1, 7, 11, 12, 59, 60, 65, 66, 67], [0, 1, 7, 12, 59, 60]) := by kernel_rfl
@[simp] theorem KC_car_69_23 : KC.car 69 23 = false := by kernel_rfl
@[simp] theorem KC_ann_69_27 : KC.ann 69 27 = some ([0, 1, 7, 11, 12, 13, 14, 59, 60, 65, 66, 67, 75, 76], [0, 1, 7, 11, 12, 59, 60, 65, 66, 67]) := by kernel_rfl
@[simp] theorem KC_car_69_27 : KC.car 69 27 = false := by kernel_rfl
@[simp] theorem KC_ann_74_8 : KC.ann 74 8 = some ([0, 3, 4], [2]) := by kernel_rfl
@[simp] theorem KC_car_74_8 : KC.car 74 8 = false := by kernel_rfl
@[simp] theorem KC_ann_75_5 : KC.ann 75 5 = some ([0, 1, 5], [4]) := by kernel_rfl
@[simp] theorem KC_car_75_5 : KC.car 75 5 = false := by kernel_rfl
@[simp] theorem KC_ann_76_5 : KC.ann 76 5 = some ([1, 2, 3, 6, 7, 8, 9, 10], [1, 2, 3, 6, 7, 8, 9]) := by kernel_rfl
@[simp] theorem KC_car_76_5 : KC.car 76 5 = false := by kernel_rfl
@[simp] theorem KC_ann_76_16 : KC.ann 76 16 = some ([1, 2, 3, 6, 7, 8, 9, 10, 11], [1, 2, 3, 6, 7, 8, 9, 10]) := by kernel_rfl
@[simp] theorem KC_car_76_16 : KC.car 76 16 = false := by kernel_rfl
@[simp] theorem KC_ann_76_20 : KC.ann 76 20 = some ([1, 2, 3, 6, 7, 8, 9], [1, 2, 3, 6, 7, 8, 9]) := by kernel_rfl
@[simp] theorem KC_car_76_20 : KC.car 76 20 = false := by kernel_rfl
@[simp] theorem KC_ann_80_4 : KC.ann 80 4 = some ([1, 2, 3, 9, 15, 16, 17], [8]) := by kernel_rfl
@[simp] theorem KC_car_80_4 : KC.car 80 4 = false := by kernel_rfl
@[simp] theorem KC_ann_81_3 : KC.ann 81 3 = some ([1, 2, 3, 4, 9], [8]) := by kernel_rfl
@[simp] theorem KC_car_81_3 : KC.car 81 3 = false := by kernel_rfl
@[simp] theorem KC_ann_82_5 : KC.ann 82 5 = some ([3, 14, 15, 16], [3]) := by kernel_rfl
@[simp] theorem KC_car_82_5 : KC.car 82 5 = false := by kernel_rfl
@[simp] theorem KC_ann_85_4 : KC.ann 85 4 = some ([1, 5, 8, 9, 10], [5]) := by kernel_rfl
@[simp] theorem KC_car_85_4 : KC.car 85 4 = false := by kernel_rfl
@[simp] theorem KC_ann_86_5 : KC.ann 86 5 = some ([0, 1, 5], [4]) := by kernel_rfl
@[simp] theorem KC_car_86_5 : KC.car 86 5 = false := by kernel_rfl
@[simp] theorem KC_ann_87_5 : KC.ann 87 5 = some ([3, 4, 10, 11, 12], [4]) := by kernel_rfl
@[simp] theorem KC_car_87_5 : KC.car 87 5 = false := by kernel_rfl
@[simp] theorem KC_ann_89_5 : KC.ann 89 5 = some ([1, 2, 3, 4], [1, 2]) := by kernel_rfl
@[simp] theorem KC_car_89_5 : KC.car 89 5 = false := by kernel_rfl
@[simp] theorem KC_ann_113_6 : KC.ann 113 6 = some ([0, 3, 4], [3]) := by kernel_rfl
@[simp] theorem KC_car_113_6 : KC.car 113 6 = false := by kernel_rfl
@[simp] theorem KC_ann_114_4 : KC.ann 114 4 = some ([0, 3, 4, 5], [3]) := by kernel_rfl
@[simp] theorem KC_car_114_4 : KC.car 114 4 = false := by kernel_rfl
@[simp] theorem KC_ann_114_7 : KC.ann 114 7 = some ([0, 3, 4, 5, 6], [0, 3, 4, 5, 6]) := by kernel_rfl
@[simp] theorem KC_car_114_7 : KC.car 114 7 = false := by kernel_rfl
@[simp] theorem KC_ann_115_3 : KC.ann 115 3 = some ([0, 1, 2, 7], [1, 2, 6]) := by kernel_rfl
@[simp] theorem KC_car_115_3 : KC.car 115 3 = false := by kernel_rfl
@[simp] theorem KC_ann_116_3 : KC.ann 116 3 = some ([0, 1, 2, 7], [1, 2, 6]) := by kernel_rfl
@[simp] theorem KC_car_116_3 : KC.car 116 3 = false := by kernel_rfl
@[simp] theorem KC_ann_119_3 : KC.ann 119 3 = some ([0, 1, 7, 8], [4]) := by kernel_rfl
@[simp] theorem KC_car_119_3 : KC.car 119 3 = false := by kernel_rfl
@[simp] theorem KC_ann_139_6 : KC.ann 139 6 = some ([0, 1, 2, 3, 9, 10], [9]) := by kernel_rfl
@[simp] theorem KC_car_139_6 : KC.car 139 6 = false := by kernel_rfl
@[simp] theorem KC_ann_140_4 : KC.ann 140 4 = some ([0, 3, 4], [3]) := by kernel_rfl
@[simp] theorem KC_car_140_4 : KC.car 140 4 = false := by kernel_rfl
@[simp] theorem KC_ann_152_4 : KC.ann 152 4 = some ([0, 1, 2, 3, 9, 10], [9]) := by kernel_rfl
@[simp] theorem KC_car_152_4 : KC.car 152 4 = false := by kernel_rfl
@[simp] theorem KC_up_16_42 : KC.up 16 42 = .box 3 := by kernel_rfl
@[simp] theorem KC_up_24_23 : KC.up 24 23 = .scopes 1 := by kernel_rfl
@[simp] theorem KC_up_27_5 : KC.up 27 5 = .scopes 0 := by kernel_rfl
@[simp] theorem KC_up_33_50 : KC.up 33 50 = .scopes 1 := by kernel_rfl
@[simp] theorem KC_up_33_73 : KC.up 33 73 = .scopes 1 := by kernel_rfl
@[simp] theorem KC_up_34_56 : KC.up 34 56 = .scopes 1 := by kernel_rfl
@[simp] theorem KC_up_34_79 : KC.up 34 79 = .scopes 1 := by kernel_rfl
@[simp] theorem KC_up_36_54 : KC.up 36 54 = .scopes 1 := by kernel_rfl
@[simp] theorem KC_up_36_59 : KC.up 36 59 = .box 7 := by kernel_rfl
@[simp] theorem KC_up_37_47 : KC.up 37 47 = .scopes 1 := by kernel_rfl
@[simp] theorem KC_up_38_22 : KC.up 38 22 = .box 1 := by kernel_rfl
@[simp] theorem KC_up_44_20 : KC.up 44 20 = .scopes 1 := by kernel_rfl
@[simp] theorem KC_up_50_43 : KC.up 50 43 = .scopes 1 := by kernel_rfl
@[simp] theorem KC_up_82_29 : KC.up 82 29 = .box 3 := by kernel_rfl
@[simp] theorem KC_up_87_32 : KC.up 87 32 = .scopes 1 := by kernel_rfl
@[simp] theorem KC_up_88_6 : KC.up 88 6 = .box 1 := by kernel_rfl
@[simp] theorem KC_up_89_21 : KC.up 89 21 = .box 1 := by kernel_rfl
@[simp] theorem KC_up_89_23 : KC.up 89 23 = .box 1 := by kernel_rfl
@[simp] theorem KC_up_108_7 : KC.up 108 7 = .scopes 0 := by kernel_rfl
@[simp] theorem KC_up_114_40 : KC.up 114 40 = .scopes 1 := by kernel_rfl
@[simp] theorem KC_up_114_44 : KC.up 114 44 = .scopes 1 := by kernel_rfl
@[simp] theorem need_13_7 : needT 13 7 = [(7, 0), (7, 1), (7, 2), (10, 7), (11, 7), (12, 7)] := by kernel_rfl
@[simp] theorem need_13_12 : needT 13 12 = [] := by kernel_rfl
@[simp] theorem need_13_13 : needT 13 13 = [] := by kernel_rfl
@[simp] theorem need_13_14 : needT 13 14 = [] := by kernel_rfl
@[simp] theorem need_13_16 : needT 13 16 = [] := by kernel_rfl
@[simp] theorem need_13_20 : needT 13 20 = [] := by kernel_rfl
@[simp] theorem need_13_21 : needT 13 21 = [] := by kernel_rfl
@[simp] theorem need_14_5 : needT 14 5 = [] := by kernel_rfl
@[simp] theorem need_16_6 : needT 16 6 = [] := by kernel_rfl
@[simp] theorem need_21_6 : needT 21 6 = [] := by kernel_rfl
@[simp] theorem need_30_17 : needT 30 17 = [] := by kernel_rfl
@[simp] theorem need_34_16 : needT 34 16 = [] := by kernel_rfl
@[simp] theorem need_35_6 : needT 35 6 = [] := by kernel_rfl
@[simp] theorem need_37_5 : needT 37 5 = [(7, 2), (7, 4), (8, 2), (8, 4), (13, 2), (13, 4), (13, 10)] := by kernel_rfl
@[simp] theorem need_38_6 : needT 38 6 = [(6, 1)] := by kernel_rfl
@[simp] theorem need_41_16 : needT 41 16 = [(6, 4), (8, 4)] := by kernel_rfl
@[simp] theorem need_42_12 : needT 42 12 = [] := by kernel_rfl
@[simp] theorem need_44_7 : needT 44 7 = [] := by kernel_rfl
@[simp] theorem need_48_14 : needT 48 14 = [(5, 4)] := by kernel_rfl
@[simp] theorem need_50_10 : needT 50 10 = [] := by kernel_rfl
@[simp] theorem need_51_6 : needT 51 6 = [] := by kernel_rfl
@[simp] theorem need_68_23 : needT 68 23 = [] := by kernel_rfl
@[simp] theorem need_69_8 : needT 69 8 = [] := by kernel_rfl
@[simp] theorem need_69_30 : needT 69 30 = [] := by kernel_rfl
@[simp] theorem need_81_4 : needT 81 4 = [(14, 10), (17, 10), (20, 10)] := by kernel_rfl
@[simp] theorem need_82_6 : needT 82 6 = [(7, 5)] := by kernel_rfl
@[simp] theorem need_84_1 : needT 84 1 = [(4, 1)] := by kernel_rfl
@[simp] theorem need_84_16 : needT 84 16 = [] := by kernel_rfl
@[simp] theorem need_86_6 : needT 86 6 = [] := by kernel_rfl
@[simp] theorem need_89_6 : needT 89 6 = [(7, 1)] := by kernel_rfl
@[simp] theorem need_110_1 : needT 110 1 = [] := by kernel_rfl
@[simp] theorem need_114_6 : needT 114 6 = [] := by kernel_rfl
@[simp] theorem need_116_4 : needT 116 4 = [] := by kernel_rfl
@[simp] theorem need_117_1 : needT 117 1 = [(20, 16), (24, 16)] := by kernel_rfl
@[simp] theorem need_121_3 : needT 121 3 = [] := by kernel_rfl
@[simp] theorem need_122_3 : needT 122 3 = [] := by kernel_rfl
@[simp] theorem need_122_4 : needT 122 4 = [] := by kernel_rfl
@[simp] theorem need_122_6 : needT 122 6 = [] := by kernel_rfl
@[simp] theorem need_122_10 : needT 122 10 = [] := by kernel_rfl
@[simp] theorem need_125_1 : needT 125 1 = [] := by kernel_rfl
@[simp] theorem need_137_1 : needT 137 1 = [] := by kernel_rfl
@[simp] theorem need_142_1 : needT 142 1 = [(6, 5), (10, 5)] := by kernel_rfl
@[simp] theorem KC_eqs {t : Nat} : KC.eqs t = eqsOf t := .trans rfl rfl
end
@[simp] theorem ty_agg3 : tagg Try.prog 3 = some false := by kernel_rfl
@[simp] theorem ty_size3 : tsize Try.prog 3 = some 1 := by kernel_rfl
@[simp] theorem ty_agg4 : tagg Try.prog 4 = some false := by kernel_rfl
@[simp] theorem ty_size4 : tsize Try.prog 4 = some 1 := by kernel_rfl
@[simp] theorem ty_agg22 : tagg Try.prog 22 = some false := by kernel_rfl
@[simp] theorem ty_size22 : tsize Try.prog 22 = some 1 := by kernel_rfl
@[simp] theorem ty_elem22 : telemS Try.prog 22 = some (some 1) := by kernel_rfl
@[simp] theorem ty_arr22 : tarrS Try.prog 22 = none := by kernel_rfl
@[simp] theorem ty_app22 : tapp Try.prog 22 = some ((some 1), (some 8), (some 1)) := by kernel_rfl
@[simp] theorem ty_lit22 : tlit Try.prog 22 = some ((some 1), (some [(.pure (.int .i64 0))])) := by kernel_rfl
@[simp] theorem ty_mk22 : tmk Try.prog 22 = some ((some 1), (some 8), (some [(.int .i64 0)])) := by kernel_rfl
@[simp] theorem ty_spread22 : spreads Try.prog (some 22) = true := by kernel_rfl
@[simp] theorem ty_agg31 : tagg Try.prog 31 = some true := by kernel_rfl
@[simp] theorem ty_size31 : tsize Try.prog 31 = some 6 := by kernel_rfl
@[simp] theorem ty_zero31 : tzero Try.prog 31 = some (.agg [(.pure (.int .i64 0)), (.pure (.int .i64 0)), (.pure (.int .i64 0)), (.pure (.int .i64 0)), (.pure (.int .i64 0)), .nils]) := by kernel_rfl
@[simp] theorem ty_arr31 : tarrS Try.prog 31 = none := by kernel_rfl
@[simp] theorem ty_places31 : tplaces Try.prog 31 = some [(0, 1), (1, 1), (2, 1), (3, 1), (4, 1), (5, 1)] := by kernel_rfl
@[simp] theorem ty_agg33 : tagg Try.prog 33 = some false := by kernel_rfl
@[simp] theorem ty_size33 : tsize Try.prog 33 = some 1 := by kernel_rfl
@[simp] theorem ty_agg41 : tagg Try.prog 41 = some true := by kernel_rfl
@[simp] theorem ty_size41 : tsize Try.prog 41 = some 8 := by kernel_rfl
@[simp] theorem ty_zero41 : tzero Try.prog 41 = some (.pure (.agg [(.int .i64 0), (.int .i64 0), (.int .i64 0), (.int .i64 0), (.int .i64 0), (.int .i64 0), (.int .i64 0), (.int .i64 0)])) := by kernel_rfl
@[simp] theorem ty_elem49 : telemS Try.prog 49 = some (some 6) := by kernel_rfl
@[simp] theorem ty_arr49 : tarrS Try.prog 49 = none := by kernel_rfl
@[simp] theorem ty_lit49 : tlit Try.prog 49 = some ((some 6), (some [(.pure (.int .i64 0)), (.pure (.int .i64 0)), (.pure (.int .i64 0)), (.pure (.int .i64 0)), (.pure (.int .i64 0)), .nils])) := by kernel_rfl
@[simp] theorem ty_agg50 : tagg Try.prog 50 = some false := by kernel_rfl
@[simp] theorem ty_size50 : tsize Try.prog 50 = some 1 := by kernel_rfl
@[simp] theorem ty_elem50 : telemS Try.prog 50 = some (some 1) := by kernel_rfl
@[simp] theorem ty_arr50 : tarrS Try.prog 50 = none := by kernel_rfl
@[simp] theorem ty_app50 : tapp Try.prog 50 = some ((some 1), (some 24), (some 1)) := by kernel_rfl
@[simp] theorem ty_lit50 : tlit Try.prog 50 = some ((some 1), (some [.nils])) := by kernel_rfl
@[simp] theorem ty_spread50 : spreads Try.prog (some 50) = true := by kernel_rfl
@[simp] theorem ty_elem58 : telemS Try.prog 58 = some (some 8) := by kernel_rfl
@[simp] theorem ty_arr58 : tarrS Try.prog 58 = none := by kernel_rfl
@[simp] theorem ty_app58 : tapp Try.prog 58 = some ((some 8), (some 64), (some 8)) := by kernel_rfl
@[simp] theorem ty_lit58 : tlit Try.prog 58 = some ((some 8), (some [(.pure (.int .i64 0)), (.pure (.int .i64 0)), (.pure (.int .i64 0)), (.pure (.int .i64 0)), (.pure (.int .i64 0)), (.pure (.int .i64 0)), (.pure (.int .i64 0)), (.pure (.int .i64 0))])) := by kernel_rfl
@[simp] theorem ty_spread58 : spreads Try.prog (some 58) = true := by kernel_rfl
@[simp] theorem ty_agg64 : tagg Try.prog 64 = some true := by kernel_rfl
@[simp] theorem ty_size64 : tsize Try.prog 64 = some 4 := by kernel_rfl
@[simp] theorem ty_zero64 : tzero Try.prog 64 = some (.agg [(.pure (.int .i64 0)), (.pure (.int .i64 0)), (.pure (.int .i64 0)), .nils]) := by kernel_rfl
@[simp] theorem ty_arr64 : tarrS Try.prog 64 = none := by kernel_rfl
@[simp] theorem ty_places64 : tplaces Try.prog 64 = some [(0, 1), (1, 1), (2, 1), (3, 1)] := by kernel_rfl
@[simp] theorem ty_agg66 : tagg Try.prog 66 = some true := by kernel_rfl
@[simp] theorem ty_size66 : tsize Try.prog 66 = some 4 := by kernel_rfl
@[simp] theorem ty_zero66 : tzero Try.prog 66 = some (.pure (.agg [(.int .i64 0), (.int .i64 0), (.int .i64 0), (.int .i64 0)])) := by kernel_rfl
@[simp] theorem ty_arr66 : tarrS Try.prog 66 = none := by kernel_rfl
@[simp] theorem ty_places66 : tplaces Try.prog 66 = some [(0, 1), (1, 1), (2, 1), (3, 1)] := by kernel_rfl
@[simp] theorem ty_agg68 : tagg Try.prog 68 = some false := by kernel_rfl
@[simp] theorem ty_size68 : tsize Try.prog 68 = some 1 := by kernel_rfl
@[simp] theorem ty_elem68 : telemS Try.prog 68 = some (some 4) := by kernel_rfl
@[simp] theorem ty_arr68 : tarrS Try.prog 68 = none := by kernel_rfl
@[simp] theorem ty_app68 : tapp Try.prog 68 = some ((some 4), (some 32), (some 4)) := by kernel_rfl
@[simp] theorem ty_lit68 : tlit Try.prog 68 = some ((some 4), (some [(.pure (.int .i64 0)), (.pure (.int .i64 0)), (.pure (.int .i64 0)), (.pure (.int .i64 0))])) := by kernel_rfl
@[simp] theorem ty_spread68 : spreads Try.prog (some 68) = true := by kernel_rfl
@[simp] theorem ty_elem70 : telemS Try.prog 70 = some (some 4) := by kernel_rfl
@[simp] theorem ty_arr70 : tarrS Try.prog 70 = none := by kernel_rfl
@[simp] theorem ty_lit70 : tlit Try.prog 70 = some ((some 4), (some [(.pure (.int .i64 0)), (.pure (.int .i64 0)), (.pure (.int .i64 0)), .nils])) := by kernel_rfl
@[simp] theorem ty_agg81 : tagg Try.prog 81 = some false := by kernel_rfl
@[simp] theorem ty_size81 : tsize Try.prog 81 = some 1 := by kernel_rfl
@[simp] theorem ty_zero81 : tzero Try.prog 81 = some .nils := by kernel_rfl
@[simp] theorem ty_elem81 : telemS Try.prog 81 = some (some 1) := by kernel_rfl
@[simp] theorem ty_arr81 : tarrS Try.prog 81 = none := by kernel_rfl
@[simp] theorem ty_app81 : tapp Try.prog 81 = some ((some 1), (some 8), (some 1)) := by kernel_rfl
@[simp] theorem ty_lit81 : tlit Try.prog 81 = some ((some 1), (some [(.pure (.int .i64 0))])) := by kernel_rfl
@[simp] theorem ty_spread81 : spreads Try.prog (some 81) = true := by kernel_rfl
@[simp] theorem ty_elem85 : telemS Try.prog 85 = some (some 1) := by kernel_rfl
@[simp] theorem ty_arr85 : tarrS Try.prog 85 = none := by kernel_rfl
@[simp] theorem ty_lit85 : tlit Try.prog 85 = some ((some 1), (some [.nils])) := by kernel_rfl
@[simp] theorem ty_agg89 : tagg Try.prog 89 = some false := by kernel_rfl
@[simp] theorem ty_size89 : tsize Try.prog 89 = some 1 := by kernel_rfl
@[simp] theorem ty_zero91 : tzero Try.prog 91 = some (.pure (.agg [(.int .u64 0)])) := by kernel_rfl
@[simp] theorem ty_arr91 : tarrS Try.prog 91 = none := by kernel_rfl
@[simp] theorem ty_places91 : tplaces Try.prog 91 = some [(0, 1)] := by kernel_rfl
@[simp] theorem ty_agg114 : tagg Try.prog 114 = some true := by kernel_rfl
@[simp] theorem ty_size114 : tsize Try.prog 114 = some 2 := by kernel_rfl
@[simp] theorem ty_zero114 : tzero Try.prog 114 = some (.agg [.nils, .nils]) := by kernel_rfl
@[simp] theorem ty_arr114 : tarrS Try.prog 114 = none := by kernel_rfl
@[simp] theorem ty_places114 : tplaces Try.prog 114 = some [(0, 1), (1, 1)] := by kernel_rfl
@[simp] theorem ty_zero121 : tzero Try.prog 121 = some (.pure (.agg [(.int .i64 0), (.int .i64 0), (.int .i64 0), (.int .i64 0), (.int .i64 0)])) := by kernel_rfl
@[simp] theorem ty_arr121 : tarrS Try.prog 121 = some (5, (some 1), (some false)) := by kernel_rfl
@[simp] theorem ty_zero128 : tzero Try.prog 128 = some (.agg [(.pure (.int .i64 0)), (.pure (.int .i64 0)), (.pure (.int .i64 0)), .nils]) := by kernel_rfl
@[simp] theorem ty_arr128 : tarrS Try.prog 128 = none := by kernel_rfl
@[simp] theorem ty_places128 : tplaces Try.prog 128 = some [(0, 4)] := by kernel_rfl
@[simp] theorem ty_arr156 : tarrS Try.prog 156 = some (9, (some 1), (some false)) := by kernel_rfl
@[simp] theorem ty_zero157 : tzero Try.prog 157 = some (.pure (.agg [(.int .i64 0), (.int .i64 0), (.int .i64 0), (.int .i64 0), (.int .i64 0), (.int .i64 0), (.int .i64 0), (.int .i64 0), (.int .i64 0), (.int .i64 0), (.int .i64 0), (.int .i64 0), (.int .i64 0), (.int .i64 0), (.int .i64 0), (.int .i64 0), (.int .i64 0), (.int .i64 0), (.int .i64 0), (.int .i64 0), (.int .i64 0), (.int .i64 0), (.int .i64 0), (.int .i64 0), (.int .i64 0), (.int .i64 0), (.int .i64 0), (.int .i64 0), (.int .i64 0), (.int .i64 0), (.int .i64 0), (.int .i64 0), (.int .i64 0), (.int .i64 0), (.int .i64 0), (.int .i64 0), (.int .i64 0), (.int .i64 0), (.int .i64 0), (.int .i64 0), (.int .i64 0), (.int .i64 0), (.int .i64 0), (.int .i64 0), (.int .i64 0), (.int .i64 0), (.int .i64 0), (.int .i64 0), (.int .i64 0), (.int .i64 0), (.int .i64 0), (.int .i64 0), (.int .i64 0), (.int .i64 0), (.int .i64 0), (.int .i64 0), (.int .i64 0), (.int .i64 0), (.int .i64 0), (.int .i64 0), (.int .i64 0), (.int .i64 0), (.int .i64 0), (.int .i64 0), (.int .i64 0), (.int .i64 0), (.int .i64 0), (.int .i64 0), (.int .i64 0), (.int .i64 0), (.int .i64 0), (.int .i64 0), (.int .i64 0), (.int .i64 0), (.int .i64 0), (.int .i64 0), (.int .i64 0), (.int .i64 0), (.int .i64 0), (.int .i64 0), (.int .i64 0)])) := by kernel_rfl
@[simp] theorem ty_arr157 : tarrS Try.prog 157 = some (9, (some 9), (some true)) := by kernel_rfl
@[simp] theorem ty_agg162 : tagg Try.prog 162 = some false := by kernel_rfl
@[simp] theorem ty_size162 : tsize Try.prog 162 = some 1 := by kernel_rfl
@[simp] theorem ty_agg163 : tagg Try.prog 163 = some true := by kernel_rfl
@[simp] theorem ty_size163 : tsize Try.prog 163 = some 7 := by kernel_rfl
@[simp] theorem ty_zero163 : tzero Try.prog 163 = some (.pure (.agg [.nilf, .nilf, .nilf, .nilf, .nilf, .nilf, .nilf])) := by kernel_rfl
@[simp] theorem ty_arr163 : tarrS Try.prog 163 = some (7, (some 1), (some false)) := by kernel_rfl
@[simp] theorem ty_mz165 : tmz Try.prog 165 = some (3, (some (.pure .nilf))) := by kernel_rfl
@[simp] theorem ty_map165 : tmap Try.prog 165 = some (3, 126) := by kernel_rfl
@[simp] theorem ty_mz167 : tmz Try.prog 167 = some (3, (some (.pure (.int .i64 0)))) := by kernel_rfl
@[simp] theorem ty_map167 : tmap Try.prog 167 = some (3, 3) := by kernel_rfl
@[simp] theorem ty_elem178 : telemS Try.prog 178 = some (some 1) := by kernel_rfl
@[simp] theorem ty_arr178 : tarrS Try.prog 178 = none := by kernel_rfl
@[simp] theorem ty_mk178 : tmk Try.prog 178 = some ((some 1), (some 1), (some [(.bool false)])) := by kernel_rfl
@[simp] theorem ty_agg179 : tagg Try.prog 179 = some false := by kernel_rfl
@[simp] theorem ty_size179 : tsize Try.prog 179 = some 1 := by kernel_rfl
@[simp] theorem ty_fs31_0 : tfs Try.prog 31 0 = some (0, (some 1)) := by kernel_rfl
@[simp] theorem ty_fs31_1 : tfs Try.prog 31 1 = some (1, (some 1)) := by kernel_rfl
@[simp] theorem ty_fs31_2 : tfs Try.prog 31 2 = some (2, (some 1)) := by kernel_rfl
@[simp] theorem ty_fs31_3 : tfs Try.prog 31 3 = some (3, (some 1)) := by kernel_rfl
@[simp] theorem ty_fs31_4 : tfs Try.prog 31 4 = some (4, (some 1)) := by kernel_rfl
@[simp] theorem ty_fs31_5 : tfs Try.prog 31 5 = some (5, (some 1)) := by kernel_rfl
@[simp] theorem ty_fs41_0 : tfs Try.prog 41 0 = some (0, (some 1)) := by kernel_rfl
@[simp] theorem ty_fs41_1 : tfs Try.prog 41 1 = some (1, (some 1)) := by kernel_rfl
@[simp] theorem ty_fs41_2 : tfs Try.prog 41 2 = some (2, (some 1)) := by kernel_rfl
@[simp] theorem ty_fs41_3 : tfs Try.prog 41 3 = some (3, (some 1)) := by kernel_rfl
@[simp] theorem ty_fs41_4 : tfs Try.prog 41 4 = some (4, (some 1)) := by kernel_rfl
@[simp] theorem ty_fs41_5 : tfs Try.prog 41 5 = some (5, (some 1)) := by kernel_rfl
@[simp] theorem ty_fs41_6 : tfs Try.prog 41 6 = some (6, (some 1)) := by kernel_rfl
@[simp] theorem ty_fs41_7 : tfs Try.prog 41 7 = some (7, (some 1)) := by kernel_rfl
@[simp] theorem ty_fs64_0 : tfs Try.prog 64 0 = some (0, (some 1)) := by kernel_rfl
@[simp] theorem ty_fs64_1 : tfs Try.prog 64 1 = some (1, (some 1)) := by kernel_rfl
@[simp] theorem ty_fs64_2 : tfs Try.prog 64 2 = some (2, (some 1)) := by kernel_rfl
@[simp] theorem ty_fs64_3 : tfs Try.prog 64 3 = some (3, (some 1)) := by kernel_rfl
@[simp] theorem ty_fs66_0 : tfs Try.prog 66 0 = some (0, (some 1)) := by kernel_rfl
@[simp] theorem ty_fs66_1 : tfs Try.prog 66 1 = some (1, (some 1)) := by kernel_rfl
@[simp] theorem ty_fs66_2 : tfs Try.prog 66 2 = some (2, (some 1)) := by kernel_rfl
@[simp] theorem ty_fs66_3 : tfs Try.prog 66 3 = some (3, (some 1)) := by kernel_rfl
@[simp] theorem ty_fs91_0 : tfs Try.prog 91 0 = some (0, (some 1)) := by kernel_rfl
@[simp] theorem ty_fs114_0 : tfs Try.prog 114 0 = some (0, (some 1)) := by kernel_rfl
@[simp] theorem ty_fs114_1 : tfs Try.prog 114 1 = some (1, (some 1)) := by kernel_rfl
@[simp] theorem ty_fs128_0 : tfs Try.prog 128 0 = some (0, (some 4)) := by kernel_rfl
attribute [simp] Try.results2 Try.ntmps2
attribute [simp] Try.results3 Try.ntmps3
attribute [simp] Try.results4 Try.ntmps4
attribute [simp] Try.results5 Try.ntmps5
attribute [simp] Try.results6 Try.ntmps6
attribute [simp] Try.results7 Try.ntmps7
attribute [simp] Try.results8 Try.ntmps8
attribute [simp] Try.results9 Try.ntmps9
attribute [simp] Try.results10 Try.ntmps10
attribute [simp] Try.results11 Try.ntmps11
attribute [simp] Try.results12 Try.ntmps12
attribute [simp] Try.results13 Try.ntmps13
attribute [simp] Try.results14 Try.ntmps14
attribute [simp] Try.results15 Try.ntmps15
attribute [simp] Try.results16 Try.ntmps16
attribute [simp] Try.results17 Try.ntmps17
attribute [simp] Try.results18 Try.ntmps18
attribute [simp] Try.results19 Try.ntmps19
attribute [simp] Try.results20 Try.ntmps20
attribute [simp] Try.results21 Try.ntmps21
attribute [simp] Try.results22 Try.ntmps22
attribute [simp] Try.results23 Try.ntmps23
attribute [simp] Try.results24 Try.ntmps24
attribute [simp] Try.results25 Try.ntmps25
attribute [simp] Try.results26 Try.ntmps26
attribute [simp] Try.results27 Try.ntmps27
attribute [simp] Try.results28 Try.ntmps28
attribute [simp] Try.results29 Try.ntmps29
attribute [simp] Try.results30 Try.ntmps30
attribute [simp] Try.results31 Try.ntmps31
attribute [simp] Try.results32 Try.ntmps32
attribute [simp] Try.results33 Try.ntmps33
attribute [simp] Try.results34 Try.ntmps34
attribute [simp] Try.results35 Try.ntmps35
attribute [simp] Try.results36 Try.ntmps36
attribute [simp] Try.results37 Try.ntmps37
attribute [simp] Try.results38 Try.ntmps38
attribute [simp] Try.results39 Try.ntmps39
attribute [simp] Try.results40 Try.ntmps40
attribute [simp] Try.results41 Try.ntmps41
attribute [simp] Try.results42 Try.ntmps42
attribute [simp] Try.results43 Try.ntmps43
attribute [simp] Try.results44 Try.ntmps44
attribute [simp] Try.results45 Try.ntmps45
attribute [simp] Try.results46 Try.ntmps46
attribute [simp] Try.results47 Try.ntmps47
attribute [simp] Try.results48 Try.ntmps48
attribute [simp] Try.results49 Try.ntmps49
attribute [simp] Try.results50 Try.ntmps50
attribute [simp] Try.results51 Try.ntmps51
attribute [simp] Try.results52 Try.ntmps52
attribute [simp] Try.results53 Try.ntmps53
attribute [simp] Try.results54 Try.ntmps54
attribute [simp] Try.results55 Try.ntmps55
attribute [simp] Try.results56 Try.ntmps56
attribute [simp] Try.results57 Try.ntmps57
attribute [simp] Try.results58 Try.ntmps58
attribute [simp] Try.results59 Try.ntmps59
attribute [simp] Try.results60 Try.ntmps60
attribute [simp] Try.results61 Try.ntmps61
attribute [simp] Try.results62 Try.ntmps62
attribute [simp] Try.results63 Try.ntmps63
attribute [simp] Try.results64 Try.ntmps64
attribute [simp] Try.results65 Try.ntmps65
attribute [simp] Try.results66 Try.ntmps66
attribute [simp] Try.results67 Try.ntmps67
attribute [simp] Try.results68 Try.ntmps68
attribute [simp] Try.results69 Try.ntmps69
attribute [simp] Try.results70 Try.ntmps70
attribute [simp] Try.results71 Try.ntmps71
attribute [simp] Try.results72 Try.ntmps72
attribute [simp] Try.results73 Try.ntmps73
attribute [simp] Try.results74 Try.ntmps74
attribute [simp] Try.results75 Try.ntmps75
attribute [simp] Try.results76 Try.ntmps76
attribute [simp] Try.results77 Try.ntmps77
attribute [simp] Try.results78 Try.ntmps78
attribute [simp] Try.results79 Try.ntmps79
attribute [simp] Try.results80 Try.ntmps80
attribute [simp] Try.results81 Try.ntmps81
attribute [simp] Try.results82 Try.ntmps82
attribute [simp] Try.results83 Try.ntmps83
attribute [simp] Try.results84 Try.ntmps84
attribute [simp] Try.results85 Try.ntmps85
attribute [simp] Try.results86 Try.ntmps86
attribute [simp] Try.results87 Try.ntmps87
attribute [simp] Try.results88 Try.ntmps88
attribute [simp] Try.results89 Try.ntmps89
attribute [simp] Try.results90 Try.ntmps90
attribute [simp] Try.results91 Try.ntmps91
attribute [simp] Try.results92 Try.ntmps92
attribute [simp] Try.results93 Try.ntmps93
attribute [simp] Try.results94 Try.ntmps94
attribute [simp] Try.results95 Try.ntmps95
attribute [simp] Try.results96 Try.ntmps96
attribute [simp] Try.results97 Try.ntmps97
attribute [simp] Try.results98 Try.ntmps98
attribute [simp] Try.results99 Try.ntmps99
attribute [simp] Try.results100 Try.ntmps100
attribute [simp] Try.results101 Try.ntmps101
attribute [simp] Try.results102 Try.ntmps102
attribute [simp] Try.results103 Try.ntmps103
attribute [simp] Try.results104 Try.ntmps104
attribute [simp] Try.results105 Try.ntmps105
attribute [simp] Try.results106 Try.ntmps106
attribute [simp] Try.results107 Try.ntmps107
attribute [simp] Try.results108 Try.ntmps108
attribute [simp] Try.results109 Try.ntmps109
attribute [simp] Try.results110 Try.ntmps110
attribute [simp] Try.results111 Try.ntmps111
attribute [simp] Try.results112 Try.ntmps112
attribute [simp] Try.results113 Try.ntmps113
attribute [simp] Try.results114 Try.ntmps114
attribute [simp] Try.results115 Try.ntmps115
attribute [simp] Try.results116 Try.ntmps116
attribute [simp] Try.results117 Try.ntmps117
attribute [simp] Try.results118 Try.ntmps118
attribute [simp] Try.results119 Try.ntmps119
attribute [simp] Try.results120 Try.ntmps120
attribute [simp] Try.results121 Try.ntmps121
attribute [simp] Try.results122 Try.ntmps122
attribute [simp] Try.results123 Try.ntmps123
attribute [simp] Try.results124 Try.ntmps124
attribute [simp] Try.results125 Try.ntmps125
attribute [simp] Try.results126 Try.ntmps126
attribute [simp] Try.results127 Try.ntmps127
attribute [simp] Try.results128 Try.ntmps128
attribute [simp] Try.results129 Try.ntmps129
attribute [simp] Try.results130 Try.ntmps130
attribute [simp] Try.results131 Try.ntmps131
attribute [simp] Try.results132 Try.ntmps132
attribute [simp] Try.results133 Try.ntmps133
attribute [simp] Try.results134 Try.ntmps134
attribute [simp] Try.results135 Try.ntmps135
attribute [simp] Try.results136 Try.ntmps136
attribute [simp] Try.results137 Try.ntmps137
attribute [simp] Try.results138 Try.ntmps138
attribute [simp] Try.results139 Try.ntmps139
attribute [simp] Try.results140 Try.ntmps140
attribute [simp] Try.results141 Try.ntmps141
attribute [simp] Try.results142 Try.ntmps142
attribute [simp] Try.results143 Try.ntmps143
attribute [simp] Try.results144 Try.ntmps144
attribute [simp] Try.results145 Try.ntmps145
attribute [simp] Try.results146 Try.ntmps146
attribute [simp] Try.results147 Try.ntmps147
attribute [simp] Try.results148 Try.ntmps148
attribute [simp] Try.results149 Try.ntmps149
attribute [simp] Try.results150 Try.ntmps150
attribute [simp] Try.results151 Try.ntmps151
attribute [simp] Try.results152 Try.ntmps152
end Go.Gh


/- The drawn regions of the functions may be walked in the text's order (made by program). -/
namespace Go.Gh
open Go.Proofs
theorem good13 : good KC needT 13 (Try.f13.body.getD .skip) = true := by kernel_rfl
theorem good14 : good KC needT 14 (Try.f14.body.getD .skip) = true := by kernel_rfl
theorem good16 : good KC needT 16 (Try.f16.body.getD .skip) = true := by kernel_rfl
theorem good21 : good KC needT 21 (Try.f21.body.getD .skip) = true := by kernel_rfl
theorem good24 : good KC needT 24 (Try.f24.body.getD .skip) = true := by kernel_rfl
theorem good25 : good KC needT 25 (Try.f25.body.getD .skip) = true := by kernel_rfl
theorem good27 : good KC needT 27 (Try.f27.body.getD .skip) = true := by kernel_rfl
theorem good29 : good KC needT 29 (Try.f29.body.getD .skip) = true := by kernel_rfl
theorem good30 : good KC needT 30 (Try.f30.body.getD .skip) = true := by kernel_rfl
theorem good31 : good KC needT 31 (Try.f31.body.getD .skip) = true := by kernel_rfl
theorem good32 : good KC needT 32 (Try.f32.body.getD .skip) = true := by kernel_rfl
theorem good33 : good KC needT 33 (Try.f33.body.getD .skip) = true := by kernel_rfl
theorem good34 : good KC needT 34 (Try.f34.body.getD .skip) = true := by kernel_rfl
theorem good35 : good KC needT 35 (Try.f35.body.getD .skip) = true := by kernel_rfl
theorem good36 : good KC needT 36 (Try.f36.body.getD .skip) = true := by kernel_rfl
theorem good37 : good KC needT 37 (Try.f37.body.getD .skip) = true := by kernel_rfl
theorem good38 : good KC needT 38 (Try.f38.body.getD .skip) = true := by kernel_rfl
theorem good40 : good KC needT 40 (Try.f40.body.getD .skip) = true := by kernel_rfl
theorem good41 : good KC needT 41 (Try.f41.body.getD .skip) = true := by kernel_rfl
theorem good42 : good KC needT 42 (Try.f42.body.getD .skip) = true := by kernel_rfl
theorem good43 : good KC needT 43 (Try.f43.body.getD .skip) = true := by kernel_rfl
theorem good44 : good KC needT 44 (Try.f44.body.getD .skip) = true := by kernel_rfl
theorem good45 : good KC needT 45 (Try.f45.body.getD .skip) = true := by kernel_rfl
theorem good47 : good KC needT 47 (Try.f47.body.getD .skip) = true := by kernel_rfl
theorem good48 : good KC needT 48 (Try.f48.body.getD .skip) = true := by kernel_rfl
theorem good49 : good KC needT 49 (Try.f49.body.getD .skip) = true := by kernel_rfl
theorem good50 : good KC needT 50 (Try.f50.body.getD .skip) = true := by kernel_rfl
theorem good51 : good KC needT 51 (Try.f51.body.getD .skip) = true := by kernel_rfl
theorem good52 : good KC needT 52 (Try.f52.body.getD .skip) = true := by kernel_rfl
theorem good53 : good KC needT 53 (Try.f53.body.getD .skip) = true := by kernel_rfl
theorem good54 : good KC needT 54 (Try.f54.body.getD .skip) = true := by kernel_rfl
theorem good56 : good KC needT 56 (Try.f56.body.getD .skip) = true := by kernel_rfl
theorem good66 : good KC needT 66 (Try.f66.body.getD .skip) = true := by kernel_rfl
theorem good67 : good KC needT 67 (Try.f67.body.getD .skip) = true := by kernel_rfl
theorem good68 : good KC needT 68 (Try.f68.body.getD .skip) = true := by kernel_rfl
theorem good69 : good KC needT 69 (Try.f69.body.getD .skip) = true := by kernel_rfl
theorem good73 : good KC needT 73 (Try.f73.body.getD .skip) = true := by kernel_rfl
theorem good74 : good KC needT 74 (Try.f74.body.getD .skip) = true := by kernel_rfl
theorem good75 : good KC needT 75 (Try.f75.body.getD .skip) = true := by kernel_rfl
theorem good76 : good KC needT 76 (Try.f76.body.getD .skip) = true := by kernel_rfl
theorem good77 : good KC needT 77 (Try.f77.body.getD .skip) = true := by kernel_rfl
theorem good78 : good KC needT 78 (Try.f78.body.getD .skip) = true := by kernel_rfl
theorem good79 : good KC needT 79 (Try.f79.body.getD .skip) = true := by kernel_rfl
theorem good80 : good KC needT 80 (Try.f80.body.getD .skip) = true := by kernel_rfl
theorem good81 : good KC needT 81 (Try.f81.body.getD .skip) = true := by kernel_rfl
theorem good82 : good KC needT 82 (Try.f82.body.getD .skip) = true := by kernel_rfl
theorem good83 : good KC needT 83 (Try.f83.body.getD .skip) = true := by kernel_rfl
theorem good84 : good KC needT 84 (Try.f84.body.getD .skip) = true := by kernel_rfl
theorem good85 : good KC needT 85 (Try.f85.body.getD .skip) = true := by kernel_rfl
theorem good86 : good KC needT 86 (Try.f86.body.getD .skip) = true := by kernel_rfl
theorem good87 : good KC needT 87 (Try.f87.body.getD .skip) = true := by kernel_rfl
theorem good88 : good KC needT 88 (Try.f88.body.getD .skip) = true := by kernel_rfl
theorem good89 : good KC needT 89 (Try.f89.body.getD .skip) = true := by kernel_rfl
theorem good108 : good KC needT 108 (Try.f108.body.getD .skip) = true := by kernel_rfl
theorem good109 : good KC needT 109 (Try.f109.body.getD .skip) = true := by kernel_rfl
theorem good110 : good KC needT 110 (Try.f110.body.getD .skip) = true := by kernel_rfl
theorem good111 : good KC needT 111 (Try.f111.body.getD .skip) = true := by kernel_rfl
theorem good112 : good KC needT 112 (Try.f112.body.getD .skip) = true := by kernel_rfl
theorem good113 : good KC needT 113 (Try.f113.body.getD .skip) = true := by kernel_rfl
theorem good114 : good KC needT 114 (Try.f114.body.getD .skip) = true := by kernel_rfl
theorem good115 : good KC needT 115 (Try.f115.body.getD .skip) = true := by kernel_rfl
theorem good116 : good KC needT 116 (Try.f116.body.getD .skip) = true := by kernel_rfl
theorem good117 : good KC needT 117 (Try.f117.body.getD .skip) = true := by kernel_rfl
theorem good118 : good KC needT 118 (Try.f118.body.getD .skip) = true := by kernel_rfl
theorem good119 : good KC needT 119 (Try.f119.body.getD .skip) = true := by kernel_rfl
theorem good120 : good KC needT 120 (Try.f120.body.getD .skip) = true := by kernel_rfl
theorem good121 : good KC needT 121 (Try.f121.body.getD .skip) = true := by kernel_rfl
theorem good122 : good KC needT 122 (Try.f122.body.getD .skip) = true := by kernel_rfl
theorem good123 : good KC needT 123 (Try.f123.body.getD .skip) = true := by kernel_rfl
theorem good124 : good KC needT 124 (Try.f124.body.getD .skip) = true := by kernel_rfl
theorem good125 : good KC needT 125 (Try.f125.body.getD .skip) = true := by kernel_rfl
theorem good126 : good KC needT 126 (Try.f126.body.getD .skip) = true := by kernel_rfl
theorem good127 : good KC needT 127 (Try.f127.body.getD .skip) = true := by kernel_rfl
theorem good137 : good KC needT 137 (Try.f137.body.getD .skip) = true := by kernel_rfl
theorem good138 : good KC needT 138 (Try.f138.body.getD .skip) = true := by kernel_rfl
theorem good139 : good KC needT 139 (Try.f139.body.getD .skip) = true := by kernel_rfl
theorem good140 : good KC needT 140 (Try.f140.body.getD .skip) = true := by kernel_rfl
theorem good141 : good KC needT 141 (Try.f141.body.getD .skip) = true := by kernel_rfl
theorem good142 : good KC needT 142 (Try.f142.body.getD .skip) = true := by kernel_rfl
theorem good143 : good KC needT 143 (Try.f143.body.getD .skip) = true := by kernel_rfl
theorem good144 : good KC needT 144 (Try.f144.body.getD .skip) = true := by kernel_rfl
theorem good145 : good KC needT 145 (Try.f145.body.getD .skip) = true := by kernel_rfl
theorem good146 : good KC needT 146 (Try.f146.body.getD .skip) = true := by kernel_rfl
theorem good147 : good KC needT 147 (Try.f147.body.getD .skip) = true := by kernel_rfl
theorem good148 : good KC needT 148 (Try.f148.body.getD .skip) = true := by kernel_rfl
theorem good149 : good KC needT 149 (Try.f149.body.getD .skip) = true := by kernel_rfl
theorem good152 : good KC needT 152 (Try.f152.body.getD .skip) = true := by kernel_rfl
end Go.Gh
