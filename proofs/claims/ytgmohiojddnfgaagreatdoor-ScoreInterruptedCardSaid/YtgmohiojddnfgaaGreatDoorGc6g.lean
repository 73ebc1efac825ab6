/- Texts joined: the evaluator over ghost values, its soundness, the walks. Spaces struck and names made short by a program, for the size. -/
import Derived.Test.YtgmohiojddnfgaaGreatDoorGc6f
import Derived.Test.YtgmohiojddnfgaaGreatDoorProg
import Derived.KernelRfl
import Derived.IntWalk
namespace Go.Gh
open Go.Proofs
set_option linter.unusedVariables false
set_option linter.unusedSimpArgs false
set_option linter.unnecessarySimpa false
set_option maxRecDepth 100000
set_option maxHeartbeats 8000000
def annT : List (Nat × Nat × List Nat × List Nat) := [(4, 6, [3, 4, 5, 13, 14, 15], [12, 14]), (4, 14, [14, 20], [12]), (6, 10, [3, 4, 5, 6, 7, 9, 10], [2, 3, 4, 6, 9]), (10, 4, [0, 3, 4], [3]), (17, 3, [0, 3], [0, 2]), (19, 7, [0, 6, 7, 8], [6, 7]), (19, 11, [0, 6, 7, 8, 9, 10], [0, 6, 7, 8, 9]), (20, 8, [1, 5, 33, 34, 35], [1, 5]), (20, 12, [1, 5, 33, 34, 35, 40, 41, 42], [1, 5, 33, 34, 35]), (21, 7, [1, 5, 6], [1, 5]), (21, 11, [1, 5, 6, 7], [1, 5, 6]), (22, 8, [2, 5, 6, 7, 8, 26, 27, 28], [2, 3, 4, 5, 6, 7, 8]), (23, 8, [2, 5, 6, 7, 8, 9], [2, 3, 4, 5, 6, 7, 8]), (25, 4, [0, 4, 7, 8], [7]), (26, 11, [4, 8, 9, 10, 26, 27, 28], [4, 8, 9]), (29, 5, [2, 3, 4, 5], [2, 3]), (30, 5, [0, 1, 5, 6, 7], [5]), (32, 5, [0, 1, 5], [4]), (33, 5, [0, 1, 5], [4]), (63, 11, [1, 3, 6, 7, 30, 31, 32], [3, 6, 7, 8]), (63, 19, [3, 6, 7, 53, 54], [6, 7]), (63, 23, [3, 6, 7, 14, 15, 53, 54, 58, 59], [3, 6, 7, 15, 53, 54]), (65, 12, [1, 33, 34, 35], [1, 2]), (66, 11, [1, 3], [1, 2]), (66, 17, [1, 3, 5], [1, 2, 3]), (69, 4, [4, 9, 10, 11], [2, 3, 4]), (71, 5, [0, 1, 5, 6, 7], [5]), (72, 8, [0, 2, 4, 5, 6, 7, 8, 9], [2, 3]), (73, 4, [0, 4, 5], [2, 3, 4]), (74, 6, [0, 6, 7], [4, 5, 6]), (75, 5, [0, 1, 5], [4]), (76, 5, [3, 14, 15, 16], [3]), (79, 4, [0, 1, 5, 6], [5]), (81, 3, [1, 17, 18], [1, 2]), (81, 11, [1, 30, 31, 32], [2]), (82, 8, [3, 14, 15, 16], [2]), (97, 5, [11, 12, 13], [4]), (98, 5, [2, 3, 4, 5, 6, 7, 17, 18], [2, 3, 4, 5, 6]), (98, 10, [2, 3, 4, 5, 6, 7, 8, 9, 17, 18, 28, 29], [2, 3, 4, 5, 6, 7, 8, 9, 17, 18]), (99, 4, [1, 2, 3, 9, 15, 16, 17], [8]), (101, 4, [1, 5, 8, 9, 10], [5]), (103, 5, [0, 1, 5], [4]), (104, 3, [0, 1, 7, 8], [4]), (113, 4, [0, 3, 4, 5], [3]), (113, 7, [0, 3, 4, 5, 6], [0, 3, 4, 5, 6]), (133, 7, [0, 1, 7, 24, 25], [0, 1, 7]), (133, 13, [0, 1, 7, 9, 48, 49], [0, 1, 7, 9]), (133, 19, [0, 1, 7, 9, 59, 60], [0, 9]), (133, 23, [0, 1, 7, 11, 12, 59, 60, 65, 66, 67], [0, 1, 7, 12, 59, 60]), (133, 27, [0, 1, 7, 11, 12, 13, 14, 59, 60, 65, 66, 67, 75, 76], [0, 1, 7, 11, 12, 59, 60, 65, 66, 67]), (135, 2, [0, 7, 8, 9], []), (137, 3, [0, 1, 7, 8], [4]), (154, 5, [3, 4, 10, 11, 12], [4]), (157, 6, [0, 3, 4], [3])]
def upT : List (Nat × Nat × Up) := [(4, 86, .scopes 1), (19, 54, .scopes 1), (19, 59, .box 7), (22, 61, .box 2), (23, 58, .box 6), (25, 47, .scopes 1), (29, 42, .box 3), (30, 23, .scopes 1), (50, 14, .box 0), (63, 50, .scopes 1), (63, 73, .scopes 1), (69, 19, .scopes 1), (69, 30, .scopes 1), (71, 31, .scopes 1), (73, 33, .scopes 1), (76, 29, .box 3), (77, 6, .box 1), (79, 20, .scopes 1), (106, 7, .scopes 0), (113, 40, .scopes 1), (113, 44, .scopes 1), (154, 32, .scopes 1)]
def annOf (f r : Nat) : Option (List Nat × List Nat) := (annT.find? fun x => x.1 == f && x.2.1 == r).map fun x => x.2.2
def upOf (f d : Nat) : Up := ((upT.find? fun x => x.1 == f && x.2.1 == d).map fun x => x.2.2).getD (.scopes 0)
def needL : List (Nat × Nat × List (Nat × Nat)) := [(4, 3, [(2, 0), (3, 0)]), (6, 29, [(4, 1)]), (20, 5, [(6, 2), (11, 2), (11, 7), (13, 2), (13, 7)]), (21, 4, [(6, 2), (12, 2), (12, 7), (12, 10)]), (25, 5, [(7, 2), (7, 4), (8, 2), (8, 4), (13, 2), (13, 4), (13, 10)]), (26, 14, [(5, 4)]), (52, 1, [(8, 4), (9, 4)]), (65, 16, [(6, 4), (8, 4)]), (76, 6, [(7, 5)]), (159, 1, [(6, 5), (10, 5)])]
def needT (f r : Nat) : List (Nat × Nat) := ((needL.find? fun x => x.1 == f && x.2.1 == r).map fun x => x.2.2).getD []
def eqsOf : Nat → Option (List SK)
 | 121 => some [.int .i64, .int .i64, .int .i64, .int .i64, .int .i64, .int .i64, .int .i64, .int .i64]
 | _ => none
def litL : List (Nat × Nat) := [(4, 47)]
def typL : List Nat := [5, 105]
def extOf : Nat → Option (List GV → Heap → Option (GV × Heap))
 | 51 => some extItoa
 | 95 => some (extAtoi 222)
 | 55 => some extSplit
 | 90 => some (extCopy 105)
 | 18 => some (extTold [([], .bool true)])
 | _ => none
@[simp] theorem eqsOf_121 : eqsOf 121 = some [.int .i64, .int .i64, .int .i64, .int .i64, .int .i64, .int .i64, .int .i64, .int .i64] := .trans rfl rfl
def keepL : List Nat := [10, 25, 76, 68, 72, 106]
def frzL : List Nat := [65, 66, 24, 20, 21, 63, 26, 80, 106]
def borL : List Nat := [60, 99, 157, 97, 103]
def clnL : List Nat := [106, 18, 51, 55, 90, 95]
def ownL : List (Nat × Nat) := []
def carL : List (Nat × Nat) := []
def liftOf (f d : Nat) : Option Nat := if f = 76 ∧ d = 27 then some 3 else none
def rowOf (f d : Nat) : Option Nat := if f = 76 ∧ d = 27 then some 77 else if f = 76 ∧ d = 29 then some 77 else none
noncomputable def KC0 (cl : List Nat) : Ctx := { P := Tryz.prog, keep := fun f => keepL.contains f, ann := annOf, up := upOf, own := fun f d => ownL.contains (f, d), frz := fun f => frzL.contains f, bor := fun f => borL.contains f, car := fun f r => carL.contains (f, r), cln := fun f => cl.contains f, lift := liftOf, row := rowOf, eqs := eqsOf, typ := fun t => typL.contains t, ext := extOf, lit := fun f d => litL.contains (f, d) }
noncomputable def KC : Ctx := KC0 clnL
section
@[simp] theorem KC_P : KC.P = Tryz.prog := .trans rfl rfl
@[simp] theorem KC_own {f d : Nat} : KC.own f d = ownL.contains (f, d) := .trans rfl rfl
@[simp] theorem KC_lift {f d : Nat} : KC.lift f d = liftOf f d := .trans rfl rfl
@[simp] theorem KC_row {f d : Nat} : KC.row f d = rowOf f d := .trans rfl rfl
attribute [simp] liftOf ownL rowOf
@[simp] theorem KC_lit {f d : Nat} : KC.lit f d = litL.contains (f, d) := .trans rfl rfl
attribute [simp] litL
@[simp] theorem KC_typ {t : Nat} : KC.typ t = typL.contains t := .trans rfl rfl
attribute [simp] typL
@[simp] theorem ty_typ26 : typE KC 26 = false := by kernel_rfl
@[simp] theorem ty_typ42 : typE KC 42 = false := by kernel_rfl
@[simp] theorem ty_typ54 : typE KC 54 = false := by kernel_rfl
@[simp] theorem ty_typ56 : typE KC 56 = false := by kernel_rfl
@[simp] theorem ty_typ68 : typE KC 68 = false := by kernel_rfl
@[simp] theorem KC_ann_6_10 : KC.ann 6 10 = some ([3, 4, 5, 6, 7, 9, 10], [2, 3, 4, 6, 9]) := by kernel_rfl
@[simp] theorem KC_car_6_10 : KC.car 6 10 = false := by kernel_rfl
@[simp] theorem KC_ann_10_4 : KC.ann 10 4 = some ([0, 3, 4], [3]) := by kernel_rfl
@[simp] theorem KC_car_10_4 : KC.car 10 4 = false := by kernel_rfl
@[simp] theorem KC_ann_19_7 : KC.ann 19 7 = some ([0, 6, 7, 8], [6, 7]) := by kernel_rfl
@[simp] theorem KC_car_19_7 : KC.car 19 7 = false := by kernel_rfl
@[simp] theorem KC_ann_19_11 : KC.ann 19 11 = some ([0, 6, 7, 8, 9, 10], [0, 6, 7, 8, 9]) := by kernel_rfl
@[simp] theorem KC_car_19_11 : KC.car 19 11 = false := by kernel_rfl
@[simp] theorem KC_ann_20_8 : KC.ann 20 8 = some ([1, 5, 33, 34, 35], [1, 5]) := by kernel_rfl
@[simp] theorem KC_car_20_8 : KC.car 20 8 = false := by kernel_rfl
@[simp] theorem KC_ann_20_12 : KC.ann 20 12 = some ([1, 5, 33, 34, 35, 40, 41, 42], [1, 5, 33, 34, 35]) := by kernel_rfl
@[simp] theorem KC_car_20_12 : KC.car 20 12 = false := by kernel_rfl
@[simp] theorem KC_ann_22_8 : KC.ann 22 8 = some ([2, 5, 6, 7, 8, 26, 27, 28], [2, 3, 4, 5, 6, 7, 8]) := by kernel_rfl
@[simp] theorem KC_car_22_8 : KC.car 22 8 = false := by kernel_rfl
@[simp] theorem KC_ann_25_4 : KC.ann 25 4 = some ([0, 4, 7, 8], [7]) := by kernel_rfl
@[simp] theorem KC_car_25_4 : KC.car 25 4 = false := by kernel_rfl
@[simp] theorem KC_ann_26_11 : KC.ann 26 11 = some ([4, 8, 9, 10, 26, 27, 28], [4, 8, 9]) := by kernel_rfl
@[simp] theorem KC_car_26_11 : KC.car 26 11 = false := by kernel_rfl
@[simp] theorem KC_ann_29_5 : KC.ann 29 5 = some ([2, 3, 4, 5], [2, 3]) := by kernel_rfl
@[simp] theorem KC_car_29_5 : KC.car 29 5 = false := by kernel_rfl
@[simp] theorem KC_ann_30_5 : KC.ann 30 5 = some ([0, 1, 5, 6, 7], [5]) := by kernel_rfl
@[simp] theorem KC_car_30_5 : KC.car 30 5 = false := by kernel_rfl
@[simp] theorem KC_ann_32_5 : KC.ann 32 5 = some ([0, 1, 5], [4]) := by kernel_rfl
@[simp] theorem KC_car_32_5 : KC.car 32 5 = false := by kernel_rfl
@[simp] theorem KC_ann_33_5 : KC.ann 33 5 = some ([0, 1, 5], [4]) := by kernel_rfl
@[simp] theorem KC_car_33_5 : KC.car 33 5 = false := by kernel_rfl
@[simp] theorem KC_ann_63_11 : KC.ann 63 11 = some ([1, 3, 6, 7, 30, 31, 32], [3, 6, 7, 8]) := by kernel_rfl
@[simp] theorem KC_car_63_11 : KC.car 63 11 = false := by kernel_rfl
@[simp] theorem KC_ann_63_19 : KC.ann 63 19 = some ([3, 6, 7, 53, 54], [6, 7]) := by kernel_rfl
@[simp] theorem KC_car_63_19 : KC.car 63 19 = false := by kernel_rfl
@[simp] theorem KC_ann_63_23 : KC.ann 63 23 = some ([3, 6, 7, 14, 15, 53, 54, 58, 59], [3, 6, 7, 15, 53, 54]) := by kernel_rfl
@[simp] theorem KC_car_63_23 : KC.car 63 23 = false := by kernel_rfl
@[simp] theorem KC_ann_65_12 : KC.ann 65 12 = some ([1, 33, 34, 35], [1, 2]) := by kernel_rfl
@[simp] theorem KC_car_65_12 : KC.car 65 12 = false := by kernel_rfl
@[simp] theorem KC_ann_69_4 : KC.ann 69 4 = some ([4, 9, 10, 11], [2, 3, 4]) := by kernel_rfl
@[simp] theorem KC_car_69_4 : KC.car 69 4 = false := by kernel_rfl
@[simp] theorem KC_ann_75_5 : KC.ann 75 5 = some ([0, 1, 5], [4]) := by kernel_rfl
@[simp] theorem KC_car_75_5 : KC.car 75 5 = false := by kernel_rfl
@[simp] theorem KC_ann_76_5 : KC.ann 76 5 = some ([3, 14, 15, 16], [3]) := by kernel_rfl
@[simp] theorem KC_car_76_5 : KC.car 76 5 = false := by kernel_rfl
@[simp] theorem KC_ann_79_4 : KC.ann 79 4 = some ([0, 1, 5, 6], [5]) := by kernel_rfl
@[simp] theorem KC_car_79_4 : KC.car 79 4 = false := by kernel_rfl
@[simp] theorem KC_ann_81_3 : KC.ann 81 3 = some ([1, 17, 18], [1, 2]) := by kernel_rfl
@[simp] theorem KC_car_81_3 : KC.car 81 3 = false := by kernel_rfl
@[simp] theorem KC_ann_81_11 : KC.ann 81 11 = some ([1, 30, 31, 32], [2]) := by kernel_rfl
@[simp] theorem KC_car_81_11 : KC.car 81 11 = false := by kernel_rfl
@[simp] theorem KC_ann_82_8 : KC.ann 82 8 = some ([3, 14, 15, 16], [2]) := by kernel_rfl
@[simp] theorem KC_car_82_8 : KC.car 82 8 = false := by kernel_rfl
@[simp] theorem KC_ann_97_5 : KC.ann 97 5 = some ([11, 12, 13], [4]) := by kernel_rfl
@[simp] theorem KC_car_97_5 : KC.car 97 5 = false := by kernel_rfl
@[simp] theorem KC_ann_98_5 : KC.ann 98 5 = some ([2, 3, 4, 5, 6, 7, 17, 18], [2, 3, 4, 5, 6]) := by kernel_rfl
@[simp] theorem KC_car_98_5 : KC.car 98 5 = false := by kernel_rfl
@[simp] theorem KC_ann_98_10 : KC.ann 98 10 = some ([2, 3, 4, 5, 6, 7, 8, 9, 17, 18, 28, 29], [2, 3, 4, 5, 6, 7, 8, 9, 17, 18]) := by kernel_rfl
@[simp] theorem KC_car_98_10 : KC.car 98 10 = false := by kernel_rfl
@[simp] theorem KC_ann_99_4 : KC.ann 99 4 = some ([1, 2, 3, 9, 15, 16, 17], [8]) := by kernel_rfl
@[simp] theorem KC_car_99_4 : KC.car 99 4 = false := by kernel_rfl
@[simp] theorem KC_ann_101_4 : KC.ann 101 4 = some ([1, 5, 8, 9, 10], [5]) := by kernel_rfl
@[simp] theorem KC_car_101_4 : KC.car 101 4 = false := by kernel_rfl
@[simp] theorem KC_ann_104_3 : KC.ann 104 3 = some ([0, 1, 7, 8], [4]) := by kernel_rfl
@[simp] theorem KC_car_104_3 : KC.car 104 3 = false := by kernel_rfl
@[simp] theorem KC_ann_113_4 : KC.ann 113 4 = some ([0, 3, 4, 5], [3]) := by kernel_rfl
@[simp] theorem KC_car_113_4 : KC.car 113 4 = false := by kernel_rfl
@[simp] theorem KC_ann_113_7 : KC.ann 113 7 = some ([0, 3, 4, 5, 6], [0, 3, 4, 5, 6]) := by kernel_rfl
@[simp] theorem KC_car_113_7 : KC.car 113 7 = false := by kernel_rfl
@[simp] theorem KC_ann_133_7 : KC.ann 133 7 = some ([0, 1, 7, 24, 25], [0, 1, 7]) := by kernel_rfl
@[simp] theorem KC_car_133_7 : KC.car 133 7 = false := by kernel_rfl
@[simp] theorem KC_ann_133_13 : KC.ann 133 13 = some ([0, 1, 7, 9, 48, 49], [0, 1, 7, 9]) := by kernel_rfl
@[simp] theorem KC_car_133_13 : KC.car 133 13 = false := by kernel_rfl
@[simp] theorem KC_ann_133_19 : KC.ann 133 19 = some ([0, 1, 7, 9, 59, 60], [0, 9]) := by kernel_rfl
@[simp] theorem KC_car_133_19 : KC.car 133 19 = false := by kernel_rfl
@[simp] theorem KC_ann_133_23 : KC.ann 133 23 = some ([0, 1, 7, 11, 12, 59, 60, 65, 66, 67], [0, 1, 7, 12, 59, 60]) := by kernel_rfl
@[simp] theorem KC_car_133_23 : KC.car 133 23 = false := by kernel_rfl
@[simp] theorem KC_ann_133_27 : KC.ann 133 27 = some ([0, 1, 7, 11, 12, 13, 14, 59, 60, 65, 66, 67, 75, 76], [0, 1, 7, 11, 12, 59, 60, 65, 66, 67]) := by kernel_rfl
@[simp] theorem KC_car_133_27 : KC.car 133 27 = false := by kernel_rfl
@[simp] theorem KC_ann_135_2 : KC.ann 135 2 = some ([0, 7, 8, 9], []) := by kernel_rfl
@[simp] theorem KC_car_135_2 : KC.car 135 2 = false := by kernel_rfl
@[simp] theorem KC_ann_137_3 : KC.ann 137 3 = some ([0, 1, 7, 8], [4]) := by kernel_rfl
@[simp] theorem KC_car_137_3 : KC.car 137 3 = false := by kernel_rfl
@[simp] theorem KC_ann_154_5 : KC.ann 154 5 = some ([3, 4, 10, 11, 12], [4]) := by kernel_rfl
@[simp] theorem KC_car_154_5 : KC.car 154 5 = false := by kernel_rfl
@[simp] theorem KC_ann_157_6 : KC.ann 157 6 = some ([0, 3, 4], [3]) := by kernel_rfl
@[simp] theorem KC_car_157_6 : KC.car 157 6 = false := by kernel_rfl
@[simp] theorem KC_up_19_54 : KC.up 19 54 = .scopes 1 := by kernel_rfl
@[simp] theorem KC_up_19_59 : KC.up 19 59 = .box 7 := by kernel_rfl
@[simp] theorem KC_up_22_61 : KC.up 22 61 = .box 2 := by kernel_rfl
@[simp] theorem KC_up_25_47 : KC.up 25 47 = .scopes 1 := by kernel_rfl
@[simp] theorem KC_up_29_42 : KC.up 29 42 = .box 3 := by kernel_rfl
@[simp] theorem KC_up_30_23 : KC.up 30 23 = .scopes 1 := by kernel_rfl
@[simp] theorem KC_up_50_14 : KC.up 50 14 = .box 0 := by kernel_rfl
@[simp] theorem KC_up_63_50 : KC.up 63 50 = .scopes 1 := by kernel_rfl
@[simp] theorem KC_up_63_73 : KC.up 63 73 = .scopes 1 := by kernel_rfl
@[simp] theorem KC_up_69_19 : KC.up 69 19 = .scopes 1 := by kernel_rfl
@[simp] theorem KC_up_69_30 : KC.up 69 30 = .scopes 1 := by kernel_rfl
@[simp] theorem KC_up_76_29 : KC.up 76 29 = .box 3 := by kernel_rfl
@[simp] theorem KC_up_77_6 : KC.up 77 6 = .box 1 := by kernel_rfl
@[simp] theorem KC_up_79_20 : KC.up 79 20 = .scopes 1 := by kernel_rfl
@[simp] theorem KC_up_106_7 : KC.up 106 7 = .scopes 0 := by kernel_rfl
@[simp] theorem KC_up_113_40 : KC.up 113 40 = .scopes 1 := by kernel_rfl
@[simp] theorem KC_up_113_44 : KC.up 113 44 = .scopes 1 := by kernel_rfl
@[simp] theorem KC_up_154_32 : KC.up 154 32 = .scopes 1 := by kernel_rfl
@[simp] theorem need_6_24 : needT 6 24 = [] := by kernel_rfl
@[simp] theorem need_6_29 : needT 6 29 = [(4, 1)] := by kernel_rfl
@[simp] theorem need_10_5 : needT 10 5 = [] := by kernel_rfl
@[simp] theorem need_20_5 : needT 20 5 = [(6, 2), (11, 2), (11, 7), (13, 2), (13, 7)] := by kernel_rfl
@[simp] theorem need_25_5 : needT 25 5 = [(7, 2), (7, 4), (8, 2), (8, 4), (13, 2), (13, 4), (13, 10)] := by kernel_rfl
@[simp] theorem need_26_14 : needT 26 14 = [(5, 4)] := by kernel_rfl
@[simp] theorem need_29_6 : needT 29 6 = [] := by kernel_rfl
@[simp] theorem need_32_6 : needT 32 6 = [] := by kernel_rfl
@[simp] theorem need_33_6 : needT 33 6 = [] := by kernel_rfl
@[simp] theorem need_52_1 : needT 52 1 = [(8, 4), (9, 4)] := by kernel_rfl
@[simp] theorem need_65_16 : needT 65 16 = [(6, 4), (8, 4)] := by kernel_rfl
@[simp] theorem need_68_5 : needT 68 5 = [] := by kernel_rfl
@[simp] theorem need_75_6 : needT 75 6 = [] := by kernel_rfl
@[simp] theorem need_76_6 : needT 76 6 = [(7, 5)] := by kernel_rfl
@[simp] theorem need_79_7 : needT 79 7 = [] := by kernel_rfl
@[simp] theorem need_98_23 : needT 98 23 = [] := by kernel_rfl
@[simp] theorem need_107_3 : needT 107 3 = [] := by kernel_rfl
@[simp] theorem need_108_3 : needT 108 3 = [] := by kernel_rfl
@[simp] theorem need_108_4 : needT 108 4 = [] := by kernel_rfl
@[simp] theorem need_108_6 : needT 108 6 = [] := by kernel_rfl
@[simp] theorem need_108_10 : needT 108 10 = [] := by kernel_rfl
@[simp] theorem need_111_1 : needT 111 1 = [] := by kernel_rfl
@[simp] theorem need_113_6 : needT 113 6 = [] := by kernel_rfl
@[simp] theorem need_131_1 : needT 131 1 = [] := by kernel_rfl
@[simp] theorem need_133_8 : needT 133 8 = [] := by kernel_rfl
@[simp] theorem need_133_30 : needT 133 30 = [] := by kernel_rfl
@[simp] theorem need_159_1 : needT 159 1 = [(6, 5), (10, 5)] := by kernel_rfl
@[simp] theorem KC_eqs {t : Nat} : KC.eqs t = eqsOf t := .trans rfl rfl
end
@[simp] theorem ty_agg3 : tagg Tryz.prog 3 = some false := by kernel_rfl
@[simp] theorem ty_size3 : tsize Tryz.prog 3 = some 1 := by kernel_rfl
@[simp] theorem ty_zero3 : tzero Tryz.prog 3 = some (.pure (.int .i64 0)) := by kernel_rfl
@[simp] theorem ty_agg4 : tagg Tryz.prog 4 = some false := by kernel_rfl
@[simp] theorem ty_size4 : tsize Tryz.prog 4 = some 1 := by kernel_rfl
@[simp] theorem ty_zero4 : tzero Tryz.prog 4 = some (.pure (.bool false)) := by kernel_rfl
@[simp] theorem ty_agg9 : tagg Tryz.prog 9 = some false := by kernel_rfl
@[simp] theorem ty_size9 : tsize Tryz.prog 9 = some 1 := by kernel_rfl
@[simp] theorem ty_spread9 : spreads Tryz.prog (some 9) = true := by kernel_rfl
@[simp] theorem ty_agg26 : tagg Tryz.prog 26 = some false := by kernel_rfl
@[simp] theorem ty_size26 : tsize Tryz.prog 26 = some 1 := by kernel_rfl
@[simp] theorem ty_elem26 : telemS Tryz.prog 26 = some (some 1) := by kernel_rfl
@[simp] theorem ty_arr26 : tarrS Tryz.prog 26 = none := by kernel_rfl
@[simp] theorem ty_app26 : tapp Tryz.prog 26 = some ((some 1), (some 8), (some 1)) := by kernel_rfl
@[simp] theorem ty_lit26 : tlit Tryz.prog 26 = some ((some 1), (some [(.pure (.int .i64 0))])) := by kernel_rfl
@[simp] theorem ty_mk26 : tmk Tryz.prog 26 = some ((some 1), (some 8), (some [(.int .i64 0)])) := by kernel_rfl
@[simp] theorem ty_spread26 : spreads Tryz.prog (some 26) = true := by kernel_rfl
@[simp] theorem ty_agg33 : tagg Tryz.prog 33 = some false := by kernel_rfl
@[simp] theorem ty_size33 : tsize Tryz.prog 33 = some 1 := by kernel_rfl
@[simp] theorem ty_elem33 : telemS Tryz.prog 33 = some (some 1) := by kernel_rfl
@[simp] theorem ty_arr33 : tarrS Tryz.prog 33 = none := by kernel_rfl
@[simp] theorem ty_lit33 : tlit Tryz.prog 33 = some ((some 1), (some [(.pure (.str []))])) := by kernel_rfl
@[simp] theorem ty_agg34 : tagg Tryz.prog 34 = some false := by kernel_rfl
@[simp] theorem ty_size34 : tsize Tryz.prog 34 = some 1 := by kernel_rfl
@[simp] theorem ty_agg42 : tagg Tryz.prog 42 = some false := by kernel_rfl
@[simp] theorem ty_size42 : tsize Tryz.prog 42 = some 1 := by kernel_rfl
@[simp] theorem ty_elem42 : telemS Tryz.prog 42 = some (some 1) := by kernel_rfl
@[simp] theorem ty_arr42 : tarrS Tryz.prog 42 = none := by kernel_rfl
@[simp] theorem ty_app42 : tapp Tryz.prog 42 = some ((some 1), (some 24), (some 1)) := by kernel_rfl
@[simp] theorem ty_lit42 : tlit Tryz.prog 42 = some ((some 1), (some [.nils])) := by kernel_rfl
@[simp] theorem ty_spread42 : spreads Tryz.prog (some 42) = true := by kernel_rfl
@[simp] theorem ty_agg44 : tagg Tryz.prog 44 = some true := by kernel_rfl
@[simp] theorem ty_size44 : tsize Tryz.prog 44 = some 4 := by kernel_rfl
@[simp] theorem ty_zero44 : tzero Tryz.prog 44 = some (.agg [(.pure (.int .i64 0)), (.pure (.int .i64 0)), (.pure (.int .i64 0)), .nils]) := by kernel_rfl
@[simp] theorem ty_arr44 : tarrS Tryz.prog 44 = none := by kernel_rfl
@[simp] theorem ty_places44 : tplaces Tryz.prog 44 = some [(0, 1), (1, 1), (2, 1), (3, 1)] := by kernel_rfl
@[simp] theorem ty_elem54 : telemS Tryz.prog 54 = some (some 4) := by kernel_rfl
@[simp] theorem ty_arr54 : tarrS Tryz.prog 54 = none := by kernel_rfl
@[simp] theorem ty_app54 : tapp Tryz.prog 54 = some ((some 4), (some 32), (some 4)) := by kernel_rfl
@[simp] theorem ty_lit54 : tlit Tryz.prog 54 = some ((some 4), (some [(.pure (.int .i64 0)), (.pure (.int .i64 0)), (.pure (.int .i64 0)), (.pure (.int .i64 0))])) := by kernel_rfl
@[simp] theorem ty_spread54 : spreads Tryz.prog (some 54) = true := by kernel_rfl
@[simp] theorem ty_agg56 : tagg Tryz.prog 56 = some false := by kernel_rfl
@[simp] theorem ty_size56 : tsize Tryz.prog 56 = some 1 := by kernel_rfl
@[simp] theorem ty_zero56 : tzero Tryz.prog 56 = some .nils := by kernel_rfl
@[simp] theorem ty_elem56 : telemS Tryz.prog 56 = some (some 1) := by kernel_rfl
@[simp] theorem ty_arr56 : tarrS Tryz.prog 56 = none := by kernel_rfl
@[simp] theorem ty_app56 : tapp Tryz.prog 56 = some ((some 1), (some 8), (some 1)) := by kernel_rfl
@[simp] theorem ty_lit56 : tlit Tryz.prog 56 = some ((some 1), (some [(.pure (.int .i64 0))])) := by kernel_rfl
@[simp] theorem ty_spread56 : spreads Tryz.prog (some 56) = true := by kernel_rfl
@[simp] theorem ty_agg63 : tagg Tryz.prog 63 = some true := by kernel_rfl
@[simp] theorem ty_size63 : tsize Tryz.prog 63 = some 4 := by kernel_rfl
@[simp] theorem ty_zero63 : tzero Tryz.prog 63 = some (.pure (.agg [(.int .i64 0), (.int .i64 0), (.int .i64 0), (.int .i64 0)])) := by kernel_rfl
@[simp] theorem ty_arr63 : tarrS Tryz.prog 63 = none := by kernel_rfl
@[simp] theorem ty_places63 : tplaces Tryz.prog 63 = some [(0, 1), (1, 1), (2, 1), (3, 1)] := by kernel_rfl
@[simp] theorem ty_agg65 : tagg Tryz.prog 65 = some true := by kernel_rfl
@[simp] theorem ty_size65 : tsize Tryz.prog 65 = some 6 := by kernel_rfl
@[simp] theorem ty_zero65 : tzero Tryz.prog 65 = some (.agg [(.pure (.int .i64 0)), (.pure (.int .i64 0)), (.pure (.int .i64 0)), (.pure (.int .i64 0)), (.pure (.int .i64 0)), .nils]) := by kernel_rfl
@[simp] theorem ty_arr65 : tarrS Tryz.prog 65 = none := by kernel_rfl
@[simp] theorem ty_places65 : tplaces Tryz.prog 65 = some [(0, 1), (1, 1), (2, 1), (3, 1), (4, 1), (5, 1)] := by kernel_rfl
@[simp] theorem ty_elem68 : telemS Tryz.prog 68 = some (some 8) := by kernel_rfl
@[simp] theorem ty_arr68 : tarrS Tryz.prog 68 = none := by kernel_rfl
@[simp] theorem ty_app68 : tapp Tryz.prog 68 = some ((some 8), (some 64), (some 8)) := by kernel_rfl
@[simp] theorem ty_lit68 : tlit Tryz.prog 68 = some ((some 8), (some [(.pure (.int .i64 0)), (.pure (.int .i64 0)), (.pure (.int .i64 0)), (.pure (.int .i64 0)), (.pure (.int .i64 0)), (.pure (.int .i64 0)), (.pure (.int .i64 0)), (.pure (.int .i64 0))])) := by kernel_rfl
@[simp] theorem ty_spread68 : spreads Tryz.prog (some 68) = true := by kernel_rfl
@[simp] theorem ty_agg97 : tagg Tryz.prog 97 = some false := by kernel_rfl
@[simp] theorem ty_size97 : tsize Tryz.prog 97 = some 1 := by kernel_rfl
@[simp] theorem ty_zero99 : tzero Tryz.prog 99 = some (.pure (.agg [(.int .u64 0)])) := by kernel_rfl
@[simp] theorem ty_arr99 : tarrS Tryz.prog 99 = none := by kernel_rfl
@[simp] theorem ty_places99 : tplaces Tryz.prog 99 = some [(0, 1)] := by kernel_rfl
@[simp] theorem ty_agg103 : tagg Tryz.prog 103 = some false := by kernel_rfl
@[simp] theorem ty_size103 : tsize Tryz.prog 103 = some 1 := by kernel_rfl
@[simp] theorem ty_zero105 : tzero Tryz.prog 105 = some (.agg [(.pure .nilp), .nils]) := by kernel_rfl
@[simp] theorem ty_agg121 : tagg Tryz.prog 121 = some true := by kernel_rfl
@[simp] theorem ty_size121 : tsize Tryz.prog 121 = some 8 := by kernel_rfl
@[simp] theorem ty_zero121 : tzero Tryz.prog 121 = some (.pure (.agg [(.int .i64 0), (.int .i64 0), (.int .i64 0), (.int .i64 0), (.int .i64 0), (.int .i64 0), (.int .i64 0), (.int .i64 0)])) := by kernel_rfl
@[simp] theorem ty_arr129 : tarrS Tryz.prog 129 = some (5, (some 1), (some false)) := by kernel_rfl
@[simp] theorem ty_zero143 : tzero Tryz.prog 143 = some (.agg [(.pure (.int .i64 0)), (.pure (.int .i64 0)), (.pure (.int .i64 0)), .nils]) := by kernel_rfl
@[simp] theorem ty_arr143 : tarrS Tryz.prog 143 = none := by kernel_rfl
@[simp] theorem ty_places143 : tplaces Tryz.prog 143 = some [(0, 4)] := by kernel_rfl
@[simp] theorem ty_agg168 : tagg Tryz.prog 168 = some true := by kernel_rfl
@[simp] theorem ty_size168 : tsize Tryz.prog 168 = some 2 := by kernel_rfl
@[simp] theorem ty_zero168 : tzero Tryz.prog 168 = some (.agg [.nils, .nils]) := by kernel_rfl
@[simp] theorem ty_arr168 : tarrS Tryz.prog 168 = none := by kernel_rfl
@[simp] theorem ty_places168 : tplaces Tryz.prog 168 = some [(0, 1), (1, 1)] := by kernel_rfl
@[simp] theorem ty_mz176 : tmz Tryz.prog 176 = some (3, (some (.pure .nilf))) := by kernel_rfl
@[simp] theorem ty_map176 : tmap Tryz.prog 176 = some (3, 141) := by kernel_rfl
@[simp] theorem ty_zero178 : tzero Tryz.prog 178 = some (.pure (.agg [(.int .i64 0), (.int .i64 0), (.int .i64 0), (.int .i64 0), (.int .i64 0)])) := by kernel_rfl
@[simp] theorem ty_arr178 : tarrS Tryz.prog 178 = some (5, (some 1), (some false)) := by kernel_rfl
@[simp] theorem ty_mz180 : tmz Tryz.prog 180 = some (3, (some (.pure (.int .i64 0)))) := by kernel_rfl
@[simp] theorem ty_map180 : tmap Tryz.prog 180 = some (3, 3) := by kernel_rfl
@[simp] theorem ty_agg203 : tagg Tryz.prog 203 = some false := by kernel_rfl
@[simp] theorem ty_size203 : tsize Tryz.prog 203 = some 1 := by kernel_rfl
@[simp] theorem ty_agg204 : tagg Tryz.prog 204 = some true := by kernel_rfl
@[simp] theorem ty_size204 : tsize Tryz.prog 204 = some 7 := by kernel_rfl
@[simp] theorem ty_zero204 : tzero Tryz.prog 204 = some (.pure (.agg [.nilf, .nilf, .nilf, .nilf, .nilf, .nilf, .nilf])) := by kernel_rfl
@[simp] theorem ty_arr204 : tarrS Tryz.prog 204 = some (7, (some 1), (some false)) := by kernel_rfl
@[simp] theorem ty_arr226 : tarrS Tryz.prog 226 = some (9, (some 1), (some false)) := by kernel_rfl
@[simp] theorem ty_zero227 : tzero Tryz.prog 227 = some (.pure (.agg [(.int .i64 0), (.int .i64 0), (.int .i64 0), (.int .i64 0), (.int .i64 0), (.int .i64 0), (.int .i64 0), (.int .i64 0), (.int .i64 0), (.int .i64 0), (.int .i64 0), (.int .i64 0), (.int .i64 0), (.int .i64 0), (.int .i64 0), (.int .i64 0), (.int .i64 0), (.int .i64 0), (.int .i64 0), (.int .i64 0), (.int .i64 0), (.int .i64 0), (.int .i64 0), (.int .i64 0), (.int .i64 0), (.int .i64 0), (.int .i64 0), (.int .i64 0), (.int .i64 0), (.int .i64 0), (.int .i64 0), (.int .i64 0), (.int .i64 0), (.int .i64 0), (.int .i64 0), (.int .i64 0), (.int .i64 0), (.int .i64 0), (.int .i64 0), (.int .i64 0), (.int .i64 0), (.int .i64 0), (.int .i64 0), (.int .i64 0), (.int .i64 0), (.int .i64 0), (.int .i64 0), (.int .i64 0), (.int .i64 0), (.int .i64 0), (.int .i64 0), (.int .i64 0), (.int .i64 0), (.int .i64 0), (.int .i64 0), (.int .i64 0), (.int .i64 0), (.int .i64 0), (.int .i64 0), (.int .i64 0), (.int .i64 0), (.int .i64 0), (.int .i64 0), (.int .i64 0), (.int .i64 0), (.int .i64 0), (.int .i64 0), (.int .i64 0), (.int .i64 0), (.int .i64 0), (.int .i64 0), (.int .i64 0), (.int .i64 0), (.int .i64 0), (.int .i64 0), (.int .i64 0), (.int .i64 0), (.int .i64 0), (.int .i64 0), (.int .i64 0), (.int .i64 0)])) := by kernel_rfl
@[simp] theorem ty_arr227 : tarrS Tryz.prog 227 = some (9, (some 9), (some true)) := by kernel_rfl
@[simp] theorem ty_agg229 : tagg Tryz.prog 229 = some false := by kernel_rfl
@[simp] theorem ty_size229 : tsize Tryz.prog 229 = some 1 := by kernel_rfl
@[simp] theorem ty_fs44_0 : tfs Tryz.prog 44 0 = some (0, (some 1)) := by kernel_rfl
@[simp] theorem ty_fs44_1 : tfs Tryz.prog 44 1 = some (1, (some 1)) := by kernel_rfl
@[simp] theorem ty_fs44_2 : tfs Tryz.prog 44 2 = some (2, (some 1)) := by kernel_rfl
@[simp] theorem ty_fs44_3 : tfs Tryz.prog 44 3 = some (3, (some 1)) := by kernel_rfl
@[simp] theorem ty_fs63_0 : tfs Tryz.prog 63 0 = some (0, (some 1)) := by kernel_rfl
@[simp] theorem ty_fs63_1 : tfs Tryz.prog 63 1 = some (1, (some 1)) := by kernel_rfl
@[simp] theorem ty_fs63_2 : tfs Tryz.prog 63 2 = some (2, (some 1)) := by kernel_rfl
@[simp] theorem ty_fs63_3 : tfs Tryz.prog 63 3 = some (3, (some 1)) := by kernel_rfl
@[simp] theorem ty_fs65_0 : tfs Tryz.prog 65 0 = some (0, (some 1)) := by kernel_rfl
@[simp] theorem ty_fs65_1 : tfs Tryz.prog 65 1 = some (1, (some 1)) := by kernel_rfl
@[simp] theorem ty_fs65_2 : tfs Tryz.prog 65 2 = some (2, (some 1)) := by kernel_rfl
@[simp] theorem ty_fs65_3 : tfs Tryz.prog 65 3 = some (3, (some 1)) := by kernel_rfl
@[simp] theorem ty_fs65_4 : tfs Tryz.prog 65 4 = some (4, (some 1)) := by kernel_rfl
@[simp] theorem ty_fs65_5 : tfs Tryz.prog 65 5 = some (5, (some 1)) := by kernel_rfl
@[simp] theorem ty_fs99_0 : tfs Tryz.prog 99 0 = some (0, (some 1)) := by kernel_rfl
@[simp] theorem ty_fs105_1 : tfs Tryz.prog 105 1 = some (1, (some 1)) := by kernel_rfl
@[simp] theorem ty_fs121_0 : tfs Tryz.prog 121 0 = some (0, (some 1)) := by kernel_rfl
@[simp] theorem ty_fs121_1 : tfs Tryz.prog 121 1 = some (1, (some 1)) := by kernel_rfl
@[simp] theorem ty_fs121_2 : tfs Tryz.prog 121 2 = some (2, (some 1)) := by kernel_rfl
@[simp] theorem ty_fs121_3 : tfs Tryz.prog 121 3 = some (3, (some 1)) := by kernel_rfl
@[simp] theorem ty_fs121_4 : tfs Tryz.prog 121 4 = some (4, (some 1)) := by kernel_rfl
@[simp] theorem ty_fs121_5 : tfs Tryz.prog 121 5 = some (5, (some 1)) := by kernel_rfl
@[simp] theorem ty_fs121_6 : tfs Tryz.prog 121 6 = some (6, (some 1)) := by kernel_rfl
@[simp] theorem ty_fs121_7 : tfs Tryz.prog 121 7 = some (7, (some 1)) := by kernel_rfl
@[simp] theorem ty_fs143_0 : tfs Tryz.prog 143 0 = some (0, (some 4)) := by kernel_rfl
@[simp] theorem ty_fs168_0 : tfs Tryz.prog 168 0 = some (0, (some 1)) := by kernel_rfl
@[simp] theorem ty_fs168_1 : tfs Tryz.prog 168 1 = some (1, (some 1)) := by kernel_rfl
attribute [simp] Tryz.results4 Tryz.ntmps4
attribute [simp] Tryz.results5 Tryz.ntmps5
attribute [simp] Tryz.results6 Tryz.ntmps6
attribute [simp] Tryz.results10 Tryz.ntmps10
attribute [simp] Tryz.results13 Tryz.ntmps13
attribute [simp] Tryz.results17 Tryz.ntmps17
attribute [simp] Tryz.results19 Tryz.ntmps19
attribute [simp] Tryz.results20 Tryz.ntmps20
attribute [simp] Tryz.results21 Tryz.ntmps21
attribute [simp] Tryz.results22 Tryz.ntmps22
attribute [simp] Tryz.results23 Tryz.ntmps23
attribute [simp] Tryz.results24 Tryz.ntmps24
attribute [simp] Tryz.results25 Tryz.ntmps25
attribute [simp] Tryz.results26 Tryz.ntmps26
attribute [simp] Tryz.results27 Tryz.ntmps27
attribute [simp] Tryz.results28 Tryz.ntmps28
attribute [simp] Tryz.results29 Tryz.ntmps29
attribute [simp] Tryz.results30 Tryz.ntmps30
attribute [simp] Tryz.results31 Tryz.ntmps31
attribute [simp] Tryz.results32 Tryz.ntmps32
attribute [simp] Tryz.results33 Tryz.ntmps33
attribute [simp] Tryz.results42 Tryz.ntmps42
attribute [simp] Tryz.results44 Tryz.ntmps44
attribute [simp] Tryz.results45 Tryz.ntmps45
attribute [simp] Tryz.results46 Tryz.ntmps46
attribute [simp] Tryz.results47 Tryz.ntmps47
attribute [simp] Tryz.results50 Tryz.ntmps50
attribute [simp] Tryz.results52 Tryz.ntmps52
attribute [simp] Tryz.results63 Tryz.ntmps63
attribute [simp] Tryz.results65 Tryz.ntmps65
attribute [simp] Tryz.results66 Tryz.ntmps66
attribute [simp] Tryz.results67 Tryz.ntmps67
attribute [simp] Tryz.results68 Tryz.ntmps68
attribute [simp] Tryz.results69 Tryz.ntmps69
attribute [simp] Tryz.results70 Tryz.ntmps70
attribute [simp] Tryz.results71 Tryz.ntmps71
attribute [simp] Tryz.results72 Tryz.ntmps72
attribute [simp] Tryz.results73 Tryz.ntmps73
attribute [simp] Tryz.results74 Tryz.ntmps74
attribute [simp] Tryz.results75 Tryz.ntmps75
attribute [simp] Tryz.results76 Tryz.ntmps76
attribute [simp] Tryz.results77 Tryz.ntmps77
attribute [simp] Tryz.results78 Tryz.ntmps78
attribute [simp] Tryz.results79 Tryz.ntmps79
attribute [simp] Tryz.results80 Tryz.ntmps80
attribute [simp] Tryz.results81 Tryz.ntmps81
attribute [simp] Tryz.results82 Tryz.ntmps82
attribute [simp] Tryz.results97 Tryz.ntmps97
attribute [simp] Tryz.results98 Tryz.ntmps98
attribute [simp] Tryz.results99 Tryz.ntmps99
attribute [simp] Tryz.results100 Tryz.ntmps100
attribute [simp] Tryz.results101 Tryz.ntmps101
attribute [simp] Tryz.results102 Tryz.ntmps102
attribute [simp] Tryz.results103 Tryz.ntmps103
attribute [simp] Tryz.results104 Tryz.ntmps104
attribute [simp] Tryz.results105 Tryz.ntmps105
attribute [simp] Tryz.results106 Tryz.ntmps106
attribute [simp] Tryz.results107 Tryz.ntmps107
attribute [simp] Tryz.results108 Tryz.ntmps108
attribute [simp] Tryz.results109 Tryz.ntmps109
attribute [simp] Tryz.results110 Tryz.ntmps110
attribute [simp] Tryz.results111 Tryz.ntmps111
attribute [simp] Tryz.results112 Tryz.ntmps112
attribute [simp] Tryz.results113 Tryz.ntmps113
attribute [simp] Tryz.results114 Tryz.ntmps114
attribute [simp] Tryz.results130 Tryz.ntmps130
attribute [simp] Tryz.results131 Tryz.ntmps131
attribute [simp] Tryz.results132 Tryz.ntmps132
attribute [simp] Tryz.results133 Tryz.ntmps133
attribute [simp] Tryz.results134 Tryz.ntmps134
attribute [simp] Tryz.results135 Tryz.ntmps135
attribute [simp] Tryz.results136 Tryz.ntmps136
attribute [simp] Tryz.results137 Tryz.ntmps137
attribute [simp] Tryz.results154 Tryz.ntmps154
attribute [simp] Tryz.results155 Tryz.ntmps155
attribute [simp] Tryz.results156 Tryz.ntmps156
attribute [simp] Tryz.results157 Tryz.ntmps157
attribute [simp] Tryz.results158 Tryz.ntmps158
attribute [simp] Tryz.results159 Tryz.ntmps159
attribute [simp] Tryz.results160 Tryz.ntmps160
attribute [simp] Tryz.results161 Tryz.ntmps161
attribute [simp] Tryz.results162 Tryz.ntmps162
attribute [simp] Tryz.results163 Tryz.ntmps163
attribute [simp] Tryz.results164 Tryz.ntmps164
attribute [simp] Tryz.results165 Tryz.ntmps165
section
def loopsOf : Code → List Code
 | .seq a b => loopsOf a ++ loopsOf b
 | .cond _ a b => loopsOf a ++ loopsOf b
 | .block _ a => loopsOf a
 | .scope a => loopsOf a
 | .loop a => a :: loopsOf a
 | .rangeFunc _ _ a b => loopsOf a ++ loopsOf b
 | _ => []
def lp (g : Func) (k : Nat) : Code := ((loopsOf (g.body.getD .skip))[k]?).getD .skip
noncomputable def hid {α : Type} (a : α) : α := Classical.choose (⟨a, rfl⟩ : ∃ x, x = a)
theorem hid_eq {α : Type} (a : α) : hid a = a := Classical.choose_spec (⟨a, rfl⟩ : ∃ x, x = a)
@[simp] theorem firstRegion_scope {a : Code} : firstRegion (.scope a) = firstRegion a := .trans rfl rfl
@[simp] theorem firstRegion_label {l : Nat} : firstRegion (.label l) = 0 := .trans rfl rfl
section
variable {K : Ctx} {fn : FuncId} {H : Heap}
def saV (v : GV) (x : Option (GV × Heap)) : Bool := match x with | some (v', _) => GV.beq v' v | none => false
@[simp] theorem saV_some {v v' : GV} : saV v (some (v', H)) = GV.beq v' v := rfl
@[simp] theorem sameAt_def {o : Oper} {s : Slots} {v : GV} : sameAt K fn o s v H = saV v (gop K fn o s H) := by
 unfold sameAt saV; rfl
@[simp] theorem natCast_lt_zero (n : Nat) : ((n : Int) < 0) = False := by simp
theorem w64 {x : Int} (h1 : -9223372036854775808 ≤ x) (h2 : x ≤ 9223372036854775807) : IntKind.i64.wrap x = x := IntWalk.i64_in x ⟨h1, h2⟩
def wbox (w : Int) : Blk := .box [.pure (.int .u64 w)]
def isBox (H : Heap) (nm : Nm) : Prop := ∃ w, H.get nm = some (wbox w) ∧ H.set nm (wbox w) = H
def wordAt (H : Heap) (nm : Nm) : Int := match H.get nm with | some (.box [.pure (.int _ w)]) => w | _ => 0
theorem isBox_get {nm : Nm} (h : isBox H nm) : H.get nm = some (wbox (wordAt H nm)) := by
 obtain ⟨w, h1, h2⟩ := h
 simp only [wordAt, h1, wbox]
theorem isBox_set {nm : Nm} (h : isBox H nm) : H.set nm (wbox (wordAt H nm)) = H := by
 obtain ⟨w, h1, h2⟩ := h
 simp only [wordAt, h1, wbox]
 exact h2
theorem isBox_lt {nm : Nm} (h : isBox H nm) : nm.1 < H.length := by
 obtain ⟨w, h1, h2⟩ := h
 exact Heap.get_lt h1
theorem Fr.ins_ins {q : Nat} {x y : Blk} : ∀ f : Fr, (f.ins q x).ins q y = f.ins q y
  | [] => by simp [Fr.ins]
  | (k, b) :: r => by
    simp only [Fr.ins]
    split
    · simp [Fr.ins]
    · rename_i h
      split
      · simp [Fr.ins]
      · rename_i h2
        simp only [Fr.ins, h, h2, if_false, Fr.ins_ins r]
@[simp] theorem Heap.set_set {nm : Nm} {x y : Blk} : ∀ {H : Heap}, (H.set nm x).set nm y = H.set nm y
 | [] => rfl
 | f :: H => by
  simp only [Heap.set]
  split
  ·rename_i h; simp only [Heap.set, h, if_true, Fr.ins_ins]
  ·rename_i h; simp only [Heap.set, Heap.length_set, h, if_false, Heap.set_set]
attribute [simp] Heap.length_set
@[simp] theorem Heap.get_set' {nm : Nm} {b : Blk} (h : nm.1 < H.length) : (H.set nm b).get nm = some b := Heap.get_set b h
@[simp] theorem wordAt_set {nm : Nm} {w : Int} (h : nm.1 < H.length) : wordAt (H.set nm (wbox w)) nm = w := by
 simp only [wordAt, Heap.get_set' h, wbox]
@[simp] theorem isBox_set' {nm : Nm} {w : Int} (h : nm.1 < H.length) : isBox (H.set nm (wbox w)) nm := ⟨w, Heap.get_set' h, Heap.set_set⟩
theorem isBox_up {nm : Nm} {fr : Fr} (h : isBox H nm) : isBox (fr :: H) nm := by
 have hl := isBox_lt h
 obtain ⟨w, h1, h2⟩ := h
 have : ¬ nm.1 = H.length := by omega
 exact ⟨w, by simp [this, h1], by simp [this, h2]⟩
theorem wordAt_up {nm : Nm} {fr : Fr} (h : nm.1 < H.length) : wordAt (fr :: H) nm = wordAt H nm := by
 have : ¬ nm.1 = H.length := by omega
 simp [wordAt, this]
theorem Heap.set_up {nm : Nm} {fr : Fr} {b : Blk} (h : nm.1 < H.length) : Heap.set (fr :: H) nm b = fr :: H.set nm b := by
 have : ¬ nm.1 = H.length := by omega
 simp [this]
end
end
theorem good52 : good KC needT 52 (Tryz.f52.body.getD .skip) = true := by kernel_rfl
theorem good50 : good KC needT 50 (Tryz.f50.body.getD .skip) = true := by kernel_rfl
theorem good46 : good KC needT 46 (Tryz.f46.body.getD .skip) = true := by kernel_rfl
theorem good27 : good KC needT 27 (Tryz.f27.body.getD .skip) = true := by kernel_rfl
theorem good79 : good KC needT 79 (Tryz.f79.body.getD .skip) = true := by kernel_rfl
theorem good44 : good KC needT 44 (Tryz.f44.body.getD .skip) = true := by kernel_rfl
theorem good42 : good KC needT 42 (Tryz.f42.body.getD .skip) = true := by kernel_rfl
theorem good47 : good KC needT 47 (Tryz.f47.body.getD .skip) = true := by kernel_rfl
theorem good82 : good KC needT 82 (Tryz.f82.body.getD .skip) = true := by kernel_rfl
theorem good133 : good KC needT 133 (Tryz.f133.body.getD .skip) = true := by kernel_rfl
theorem good132 : good KC needT 132 (Tryz.f132.body.getD .skip) = true := by kernel_rfl
theorem good156 : good KC needT 156 (Tryz.f156.body.getD .skip) = true := by kernel_rfl
theorem good155 : good KC needT 155 (Tryz.f155.body.getD .skip) = true := by kernel_rfl
theorem good154 : good KC needT 154 (Tryz.f154.body.getD .skip) = true := by kernel_rfl
theorem good10 : good KC needT 10 (Tryz.f10.body.getD .skip) = true := by kernel_rfl
theorem good25 : good KC needT 25 (Tryz.f25.body.getD .skip) = true := by kernel_rfl
theorem good33 : good KC needT 33 (Tryz.f33.body.getD .skip) = true := by kernel_rfl
theorem good75 : good KC needT 75 (Tryz.f75.body.getD .skip) = true := by kernel_rfl
theorem good32 : good KC needT 32 (Tryz.f32.body.getD .skip) = true := by kernel_rfl
theorem good24 : good KC needT 24 (Tryz.f24.body.getD .skip) = true := by kernel_rfl
theorem good30 : good KC needT 30 (Tryz.f30.body.getD .skip) = true := by kernel_rfl
theorem good29 : good KC needT 29 (Tryz.f29.body.getD .skip) = true := by kernel_rfl
theorem good19 : good KC needT 19 (Tryz.f19.body.getD .skip) = true := by kernel_rfl
theorem good6 : good KC needT 6 (Tryz.f6.body.getD .skip) = true := by kernel_rfl
theorem good80 : good KC needT 80 (Tryz.f80.body.getD .skip) = true := by kernel_rfl
theorem good113 : good KC needT 113 (Tryz.f113.body.getD .skip) = true := by kernel_rfl
theorem good81 : good KC needT 81 (Tryz.f81.body.getD .skip) = true := by kernel_rfl
theorem good65 : good KC needT 65 (Tryz.f65.body.getD .skip) = true := by kernel_rfl
theorem good28 : good KC needT 28 (Tryz.f28.body.getD .skip) = true := by kernel_rfl
theorem good22 : good KC needT 22 (Tryz.f22.body.getD .skip) = true := by kernel_rfl
theorem good63 : good KC needT 63 (Tryz.f63.body.getD .skip) = true := by kernel_rfl
theorem good31 : good KC needT 31 (Tryz.f31.body.getD .skip) = true := by kernel_rfl
theorem good26 : good KC needT 26 (Tryz.f26.body.getD .skip) = true := by kernel_rfl
theorem good77 : good KC needT 77 (Tryz.f77.body.getD .skip) = true := by kernel_rfl
theorem good20 : good KC needT 20 (Tryz.f20.body.getD .skip) = true := by kernel_rfl
theorem good99 : good KC needT 99 (Tryz.f99.body.getD .skip) = true := by kernel_rfl
theorem good101 : good KC needT 101 (Tryz.f101.body.getD .skip) = true := by kernel_rfl
theorem good69 : good KC needT 69 (Tryz.f69.body.getD .skip) = true := by kernel_rfl
theorem good68 : good KC needT 68 (Tryz.f68.body.getD .skip) = true := by kernel_rfl
theorem good134 : good KC needT 134 (Tryz.f134.body.getD .skip) = true := by kernel_rfl
theorem good158 : good KC needT 158 (Tryz.f158.body.getD .skip) = true := by kernel_rfl
theorem good159 : good KC needT 159 (Tryz.f159.body.getD .skip) = true := by kernel_rfl
theorem good160 : good KC needT 160 (Tryz.f160.body.getD .skip) = true := by kernel_rfl
theorem good161 : good KC needT 161 (Tryz.f161.body.getD .skip) = true := by kernel_rfl
theorem good162 : good KC needT 162 (Tryz.f162.body.getD .skip) = true := by kernel_rfl
theorem good163 : good KC needT 163 (Tryz.f163.body.getD .skip) = true := by kernel_rfl
theorem good164 : good KC needT 164 (Tryz.f164.body.getD .skip) = true := by kernel_rfl
theorem good165 : good KC needT 165 (Tryz.f165.body.getD .skip) = true := by kernel_rfl
theorem good98 : good KC needT 98 (Tryz.f98.body.getD .skip) = true := by kernel_rfl
theorem good70 : good KC needT 70 (Tryz.f70.body.getD .skip) = true := by kernel_rfl
theorem good105 : good KC needT 105 (Tryz.f105.body.getD .skip) = true := by kernel_rfl
theorem good135 : good KC needT 135 (Tryz.f135.body.getD .skip) = true := by kernel_rfl
theorem good100 : good KC needT 100 (Tryz.f100.body.getD .skip) = true := by kernel_rfl
theorem good76 : good KC needT 76 (Tryz.f76.body.getD .skip) = true := by kernel_rfl
theorem good97 : good KC needT 97 (Tryz.f97.body.getD .skip) = true := by kernel_rfl
theorem good130 : good KC needT 130 (Tryz.f130.body.getD .skip) = true := by kernel_rfl
theorem good131 : good KC needT 131 (Tryz.f131.body.getD .skip) = true := by kernel_rfl
theorem good106 : good KC needT 106 (Tryz.f106.body.getD .skip) = true := by kernel_rfl
theorem good114 : good KC needT 114 (Tryz.f114.body.getD .skip) = true := by kernel_rfl
theorem good137 : good KC needT 137 (Tryz.f137.body.getD .skip) = true := by kernel_rfl
theorem good104 : good KC needT 104 (Tryz.f104.body.getD .skip) = true := by kernel_rfl
theorem good157 : good KC needT 157 (Tryz.f157.body.getD .skip) = true := by kernel_rfl
theorem good111 : good KC needT 111 (Tryz.f111.body.getD .skip) = true := by kernel_rfl
theorem good78 : good KC needT 78 (Tryz.f78.body.getD .skip) = true := by kernel_rfl
theorem good112 : good KC needT 112 (Tryz.f112.body.getD .skip) = true := by kernel_rfl
theorem good107 : good KC needT 107 (Tryz.f107.body.getD .skip) = true := by kernel_rfl
theorem good109 : good KC needT 109 (Tryz.f109.body.getD .skip) = true := by kernel_rfl
theorem good110 : good KC needT 110 (Tryz.f110.body.getD .skip) = true := by kernel_rfl
theorem good136 : good KC needT 136 (Tryz.f136.body.getD .skip) = true := by kernel_rfl
theorem good108 : good KC needT 108 (Tryz.f108.body.getD .skip) = true := by kernel_rfl
section
@[simp] theorem ne_add2 (n : Nat) : (n = n + 1 + 1) = False := by simp; omega
@[simp] theorem ne_add3 (n : Nat) : (n = n + 1 + 1 + 1) = False := by simp; omega
@[simp] theorem ne_add4 (n : Nat) : (n = n + 1 + 1 + 1 + 1) = False := by simp; omega
@[simp] theorem ne_add2' (n : Nat) : (n + 1 + 1 = n) = False := by simp; omega
@[simp] theorem ne_add3' (n : Nat) : (n + 1 + 1 + 1 = n) = False := by simp; omega
@[simp] theorem nle_add2 (n : Nat) : (n + 1 + 1 ≤ n) = False := by simp; omega
@[simp] theorem nle_add3 (n : Nat) : (n + 1 + 1 + 1 ≤ n) = False := by simp; omega
@[simp] theorem le_add2 (n : Nat) : (n ≤ n + 1 + 1) = True := by simp; omega
@[simp] theorem le_add3 (n : Nat) : (n ≤ n + 1 + 1 + 1) = True := by simp; omega
def apS (nm : Nm) (es : Nat) (rows : List (List PV)) : GV := if rows = [] then .nils else .hdr nm es rows.length 0 rows.length
def apF (key es : Nat) (rows : List (List PV)) (fr : Fr) : Fr := if rows = [] then fr else fr.ins key (.arr es rows 0 false)
theorem apS_nil {nm : Nm} {es : Nat} : apS nm es [] = .nils := rfl
theorem apF_nil {key es : Nat} {fr : Fr} : apF key es [] fr = fr := rfl
theorem Fr.ins_comm {q p : Nat} (x y : Blk) (h : q ≠ p) : ∀ f : Fr, (f.ins p y).ins q x = (f.ins q x).ins p y
  | [] => by
    simp only [Fr.ins, h, Ne.symm h, if_false]
    split
    · rename_i h1; rw [if_neg (by omega)]
    · rename_i h1; rw [if_pos (by omega)]
  | (k, b) :: r => by
    have hp : ¬ p = q := fun e => h e.symm
    by_cases h1 : p = k
    · subst h1
      by_cases h3 : q < p
      · simp [Fr.ins, h, h3, hp, show ¬ p < q by omega]
      · simp [Fr.ins, h, h3]
    · by_cases h2 : q = k
      · subst h2
        by_cases h3 : p < q
        · simp [Fr.ins, h, h3, hp, show ¬ q < p by omega]
        · simp [Fr.ins, h1, h3]
      · by_cases h3 : p < k
        · by_cases h4 : q < k
          · by_cases h5 : q < p
            · simp [Fr.ins, h, hp, h1, h2, h3, h4, h5, show ¬ p < q by omega]
            · simp [Fr.ins, h, hp, h1, h2, h3, h4, h5, show p < q by omega]
          · simp [Fr.ins, h, hp, h1, h2, h3, h4, show ¬ q < p by omega]
        · by_cases h4 : q < k
          · simp [Fr.ins, h, hp, h1, h2, h3, h4, show ¬ p < q by omega]
          · simp [Fr.ins, h1, h2, h3, h4, Fr.ins_comm x y h r]
section
variable {key es : Nat} {rows : List (List PV)} {fr : Fr} {H : Heap} {nm : Nm}
@[simp] theorem apF_get {k : Nat} (h : k ≠ key) : (apF key es rows fr).get k = fr.get k := by
 unfold apF; split
 ·rfl
 ·exact Fr.get_ins_other _ h _
@[simp] theorem apF_ins {k : Nat} {b : Blk} (h : k ≠ key) : (apF key es rows fr).ins k b = apF key es rows (fr.ins k b) := by
 unfold apF; split
 ·rfl
 ·exact Fr.ins_comm _ _ h _
theorem apF_self (h : rows ≠ []) : (apF key es rows fr).get key = some (.arr es rows 0 false) := by
 unfold apF; rw [if_neg h]; exact Fr.get_ins _ _ _
@[simp] theorem cellsO_apS : cellsO (apS nm es rows) = some [apS nm es rows] := by
 unfold apS; split <;> rfl
@[simp] theorem lowerCell_apS {l0 : Nat} (h : nm.1 ≤ l0) : lowerCell H l0 (apS nm es rows) = (apS nm es rows, H) := by
 unfold apS; split
 ·rfl
 ·simp [h]
@[simp] theorem lenD_apS {e : TypeId} : lenD (some (.slice e)) H (apS nm es rows) = some (rows.length : Int) := by
 unfold apS; split
 ·rename_i h; subst h; rfl
 ·rfl
@[simp] theorem allPure_apS {r : List GV} : allPure (apS nm es rows :: r) = none := by
 unfold apS; split <;> rfl
@[simp] theorem clean_apS_keep {l0 : Nat} (h : nm.1 ≤ l0) : clean H l0 (apS nm es rows) = apS nm es rows := by
 unfold apS; split
 ·rfl
 ·simp [h]
theorem apK_apS {l bytes : Nat} {r : List PV} {H' : Heap} (hg : rows = [] → H'.get (l, key) = none) (hg2 : rows ≠ [] → H'.get (l, key) = some (.arr es rows 0 false)) (hl : l < H'.length) (hb : (rows.length + 1) * bytes ≤ 1099511627776) (hk : key < tyBase) :
  apK l key (apS (l, key) es rows) es bytes [r] H' = some (apS (l, key) es (rows ++ [r]), H'.set (l, key) (.arr es (rows ++ [r]) 0 false)) := by
 unfold apS
 by_cases h : rows = []
 ·subst h
  have h1 := hg rfl
  have h2 : ¬ H'.length ≤ l := by omega
  have h3 : bytes ≤ 1099511627776 := by simpa using hb
  simp [h1, h2, h3]
 ·have h1 := hg2 h
  simp [h, h1, hb, lt_tyBase ▸ hk]
@[simp] theorem apK_0 {l bytes : Nat} {r : List PV} (hl : H.length = l) (hf : fr.get key = none) (hb : (rows.length + 1) * bytes ≤ 1099511627776) (hk : key < tyBase) :
  apK l key (apS (l, key) es rows) es bytes [r] (apF key es rows fr :: H) = some (apS (l, key) es (rows ++ [r]), apF key es (rows ++ [r]) fr :: H) := by
 subst hl
 rw [apK_apS (fun h => by subst h; simp [apF, hf]) (fun h => by simp [apF_self h]) (by simp) hb hk]
 simp [apF]
 split
 ·rfl
 ·rw [Fr.ins_ins]
@[simp] theorem apK_1 {l bytes : Nat} {r : List PV} {f0 : Fr} (hl : H.length = l) (hf : fr.get key = none) (hb : (rows.length + 1) * bytes ≤ 1099511627776) (hk : key < tyBase) :
  apK l key (apS (l, key) es rows) es bytes [r] (f0 :: apF key es rows fr :: H) = some (apS (l, key) es (rows ++ [r]), f0 :: apF key es (rows ++ [r]) fr :: H) := by
 subst hl
 rw [apK_apS (fun h => by subst h; simp [apF, hf]) (fun h => by simp [apF_self h]) (by simp; omega) hb hk]
 simp [apF]
 split
 ·rfl
 ·rw [Fr.ins_ins]
theorem cc_apS {l l0 : Nat} (hl : H.length = l) (h : l0 < l) : canon (clean (apF key es rows fr :: H) l0 (apS (l, key) es rows)) = .pure (.slice rows) := by
 subst hl
 unfold apS
 by_cases hr : rows = []
 ·subst hr; simp
 ·have : ¬ H.length ≤ l0 := by omega
  simp [hr, this, apF_self hr]
theorem clean1_apS {l l0 : Nat} {F : Fr} (hl : H.length = l) (h : l0 < l) (hF : rows ≠ [] → F.get key = some (.arr es rows 0 false)) : clean1 (F :: H) l0 (apS (l, key) es rows) = if rows = [] then .nils else .pure (.slice rows) := by
 subst hl
 unfold apS
 by_cases hr : rows = []
 ·subst hr; simp
 ·have : ¬ H.length ≤ l0 := by omega
  simp [hr, this, hF hr]
@[simp] theorem iaS_apS {i : Nat} (h : i < rows.length) : iaS (some (some es)) (apS nm es rows) (i : Int) = some (.eptr nm es rows.length i 0) := by
 unfold apS
 have hr : rows ≠ [] := fun e => by subst e; simp at h
 simp [hr, h]
end
end
section
def hdQ (h : Heap) (k : Fr → Heap → Prop) : Prop := match h with | fr :: H1 => k fr H1 | [] => False
@[simp] theorem hdQ_cons {fr : Fr} {H : Heap} {k : Fr → Heap → Prop} : hdQ (fr :: H) k = k fr H := .trans rfl rfl
def lpQ (x : Option Blk) (k : GLoop → Prop) : Prop := match x with | some (.loop l) => k l | _ => False
@[simp] theorem lpQ_loop {l : GLoop} {k : GLoop → Prop} : lpQ (some (.loop l)) k = k l := .trans rfl rfl
def rangeOf : Code → Option (Code × Code)
 | .seq a b => match rangeOf a with | some x => some x | none => rangeOf b
 | .cond _ a b => match rangeOf a with | some x => some x | none => rangeOf b
 | .block _ a => rangeOf a
 | .loop a => rangeOf a
 | .rangeFunc _ _ a b => some (a, b)
 | _ => none
def rgA (g : Func) : Code := ((rangeOf (g.body.getD .skip)).getD (.skip, .skip)).1
def rgB (g : Func) : Code := ((rangeOf (g.body.getD .skip)).getD (.skip, .skip)).2
section
variable (K : Ctx) (N : FuncId → Nat → List (Nat × Nat))
def roundEnd (nm : Nm) (R : GV × Heap → Prop) (e : GX) (st : GSt) : Prop :=
 hdQ st.h fun _ H2 => lpQ (Heap.get H2 nm) fun l2 =>
  R (match e with
   | .normal => (.pure (.bool true), Heap.set H2 nm (.loop { l2 with state := .ready, pending := none }))
   | e => (.pure (.bool false), Heap.set H2 nm (.loop { l2 with state := .done, pending := some e })))
def roundMid (nm : Nm) (l : GLoop) (R : GV × Heap → Prop) (e : GX) (st : GSt) : Prop :=
 e = .normal ∧ hdQ st.h fun fr H1 => lpQ (Heap.get H1 nm) fun l1 => l1.state = .ready ∧
  wp K N l.fn l.body ⟨st.s, fr :: Heap.set H1 nm (.loop { l1 with state := .busy }), l.nt⟩ (roundEnd nm R)
theorem ground_wp {nm : Nm} {args : List GV} {H : Heap} {l : GLoop} {s : Slots} {R : GV × Heap → Prop} (hl : H.get nm = some (.loop l)) (hr : l.state = .ready) (hp : putParams l.slots l.nt l.params (args.map canon) = some s)
  (ha : good K N l.fn l.assign = true) (hb : good K N l.fn l.body = true) (h : wp K N l.fn l.assign ⟨s, [] :: H, l.nt⟩ (roundMid K N nm l R)) : WPv (ground (geval K) nm args H) R := by
 obtain ⟨e, st, h1, rfl, h2⟩ := wp_sound K N l.fn l.assign h ha
 unfold hdQ at h2
 split at h2
 ·rename_i fr H1 hst
  unfold lpQ at h2
  split at h2
  ·rename_i l1 hg1
   obtain ⟨h3, h4⟩ := h2
   obtain ⟨e2, st2, h5, h6⟩ := wp_sound K N l.fn l.body h4 hb
   unfold roundEnd hdQ at h6
   split at h6
   ·rename_i fr2 H2 hst2
    unfold lpQ at h6
    split at h6
    ·rename_i l2 hg2
     refine ⟨_, ?_, h6⟩
     simp only [ground, hl, hr, if_true, hp, h1, hst, hg1, h3, ne_eq, not_true_eq_false, if_false, h5, hst2, hg2]
     cases e2 <;> rfl
    ·exact h6.elim
   ·exact h6.elim
  ·exact h2.elim
 ·exact h2.elim
def rangeEnd (nm : Nm) (st : GSt) (Q : GX → GSt → Prop) (H : Heap) : Prop :=
 lpQ (Heap.get H nm) fun l => l.state ≠ .busy ∧ Q (match l.pending with | none => .normal | some e => e) { st with h := Heap.set H nm (.loop { l with state := .exhausted }) }
theorem WP_range {fn : FuncId} {f : Operand} {ps : Array Tmp} {assign body : Code} {st : GSt} {Q : GX → GSt → Prop} {nm : Nm} {H1 H2 : Heap} {v : GV}
  (h1 : gnewV st.h (10000000 + firstRegion body) (.loop { slots := st.s, nt := st.nt, params := ps.toList, assign := assign, body := body, fn := fn, state := .ready, pending := none }) = some (nm, H1))
  (h2 : gcallF K (geval K) (ev st.s f) [.yield nm] 0 H1 = some (v, H2)) (h3 : rangeEnd nm st Q H2) : WP K N fn (.rangeFunc f ps assign body) st Q := fun _ => by
 rw [← gnew_loop] at h1
 rw [geval_eq]
 unfold rangeEnd lpQ at h3
 split at h3
 ·rename_i l hg
  obtain ⟨h4, h5⟩ := h3
  simp only [gbody, h1, h2, hg, h4, if_false]
  cases hp : l.pending with
  | none => rw [hp] at h5; exact ⟨_, _, rfl, h5⟩
  | some e => rw [hp] at h5; exact ⟨_, _, rfl, h5⟩
 ·exact h3.elim
end
end
section
section
variable {K : Ctx} {fn : FuncId} {H : Heap}
@[simp] theorem cellsO_rhdr {nm : Nm} {es i len : Nat} : cellsO (.rhdr nm es i len) = some [.rhdr nm es i len] := .trans rfl rfl
@[simp] theorem allPure_rhdr {nm : Nm} {es i len : Nat} {r : List GV} : allPure (.rhdr nm es i len :: r) = none := .trans rfl rfl
@[simp] theorem canon1_rhdr {nm : Nm} {es i len : Nat} : canon1 (.rhdr nm es i len) = .rhdr nm es i len := .trans rfl rfl
@[simp] theorem canon_rhdr {nm : Nm} {es i len : Nat} : canon (.rhdr nm es i len) = .rhdr nm es i len := .trans rfl rfl
@[simp] theorem clean_rhdr {l0 : Nat} {nm : Nm} {es i len : Nat} : clean H l0 (.rhdr nm es i len) = if nm.1 ≤ l0 then .rhdr nm es i len else gdead := .trans rfl rfl
@[simp] theorem frzVal_rhdr {nm : Nm} {es i len : Nat} : frzVal H (.rhdr nm es i len) = (.rhdr nm es i len, H) := .trans rfl rfl
def tbLd (ag : Option Bool) (sz : Option Nat) (es i j off : Nat) (b : Option Blk) : Option GV :=
 match ag, sz, b with
 | some ag, some size, some (.mat es' rows _) =>
  if es' = es then
   (match rows[i]? with
   | some r =>
    (match r[j]? with
    | some e => if ag then (if off + size ≤ e.length then some (.pure (.agg ((e.drop off).take size))) else none) else (match e[off]? with | some p => some (.pure p) | none => none)
    | none => none)
   | none => none)
  else none
 | _, _, _ => none
@[congr] theorem tbLd_cg {ag : Option Bool} {sz : Option Nat} {es i j off : Nat} {b b' : Option Blk} (h : ∀ _ : Unit, b = b') : tbLd ag sz es i j off b = tbLd ag sz es i j off b' := by rw [h ()]
@[simp] theorem tbLd_one {sz es i j off n : Nat} {rows : List (List (List PV))} : tbLd (some false) (some sz) es i j off (some (.mat es rows n)) =
      (match rows[i]? with
      | some r =>
        (match r[j]? with
        | some e => (match e[off]? with | some p => some (.pure p) | none => none)
        | none => none)
      | none => none) := by
  simp only [tbLd, if_true]
  split <;> simp
@[simp] theorem gload_rptr {P : Program} {t : TypeId} {nm : Nm} {es i j off : Nat} : gload P t H (.rptr nm es i j off) = tbLd (tagg P t) (tsize P t) es i j off (H.get nm) := by
 unfold gload tbLd; generalize tagg P t = x; generalize tsize P t = y; simp only; generalize Heap.get H nm = z
 rcases x with _ | ag <;> rcases y with _ | sz <;> rcases z with _ | b <;> try rfl
 all_goals (cases b <;> rfl)
def tbStR (size es i j off : Nat) (ps : List PV × Heap) (nm : Nm) : Option Heap := match ps.2.get nm with
  | some (.mat es' rows n) => if es' = es then
          (match rows[i]? with
          | some r =>
            (match r[j]? with
            | some e => if off + size ≤ e.length then some (ps.2.set nm (.mat es' (rows.set i (r.set j (splice e off ps.1))) n)) else none
            | none => none)
          | none => none)
        else none
  | _ => none
@[simp] theorem gstore_rptr {P : Program} {t : TypeId} {nm : Nm} {es i j off : Nat} {v : GV} : gstore P t H (.rptr nm es i j off) v = stV (tsize P t) (cellsO v) fun size cells => tbStR size es i j off (pureCells H cells) nm := by
 unfold gstore stV
 cases tsize P t with
 | none => rfl
 | some size =>
  cases cellsO v with
  | none => rfl
  | some cells => rfl
def tbSt (size es i j off : Nat) (ps : List PV) (H : Heap) (nm : Nm) (b : Option Blk) : Option Heap := match b with
  | some (.mat es' rows n) => if es' = es then
          (match rows[i]? with
          | some r =>
            (match r[j]? with
            | some e => if off + size ≤ e.length then some (H.set nm (.mat es' (rows.set i (r.set j (splice e off ps))) n)) else none
            | none => none)
          | none => none)
        else none
  | _ => none
@[congr] theorem tbSt_cg {size es i j off : Nat} {ps : List PV} {nm : Nm} {b b' : Option Blk} (h : ∀ _ : Unit, b = b') : tbSt size es i j off ps H nm b = tbSt size es i j off ps H nm b' := by rw [h ()]
@[simp] theorem tbSt_mat {size es i j off n : Nat} {ps : List PV} {nm : Nm} {rows : List (List (List PV))} : tbSt size es i j off ps H nm (some (.mat es rows n)) =
          (match rows[i]? with
          | some r =>
            (match r[j]? with
            | some e => if off + size ≤ e.length then some (H.set nm (.mat es (rows.set i (r.set j (splice e off ps))) n)) else none
            | none => none)
          | none => none) := by
  simp only [tbSt, if_true]
@[simp] theorem tbStR_def {size es i j off : Nat} {ps : List PV} {nm : Nm} : tbStR size es i j off (ps, H) nm = tbSt size es i j off ps H nm (H.get nm) := by
 unfold tbStR tbSt; rfl
@[simp] theorem leads_nil {nm : Nm} : leads nm [] = false := .trans rfl rfl
@[simp] theorem leads_hdr {nm m : Nm} {es top lo len : Nat} {r : List GV} : leads nm (.hdr m es top lo len :: r) = (decide (m = nm) || leads nm r) := .trans rfl rfl
@[simp] theorem leads_pure {nm : Nm} {p : PV} {r : List GV} : leads nm (.pure p :: r) = leads nm r := .trans rfl rfl
@[simp] theorem leads_nils {nm : Nm} {r : List GV} : leads nm (.nils :: r) = leads nm r := .trans rfl rfl
def tbRow (H : Heap) (bn : Nm) (key es : Nat) (r : List (List PV)) (b : Option Blk) : Option (Nat × Heap) := match b with
 | none => some (0, H.set (bn.1, key) (.mat es [r] 0))
 | some (.mat es' rows n) =>
  (match H.get bn with
  | some (.box cs) => if es' = es ∧ leads (bn.1, key) cs = true then some (rows.length, H.set (bn.1, key) (.mat es (rows ++ [r]) n)) else none
  | _ => none)
 | _ => none
@[congr] theorem tbRow_cg {bn : Nm} {key es : Nat} {r : List (List PV)} {b b' : Option Blk} (h : ∀ _ : Unit, b = b') : tbRow H bn key es r b = tbRow H bn key es r b' := by rw [h ()]
@[simp] theorem tbRow_none {bn : Nm} {key es : Nat} {r : List (List PV)} : tbRow H bn key es r none = some (0, H.set (bn.1, key) (.mat es [r] 0)) := .trans rfl rfl
def tbRowC (H : Heap) (bn : Nm) (key es es' : Nat) (r : List (List PV)) (rows : List (List (List PV))) (n : Nat) (b : Option Blk) : Option (Nat × Heap) := match b with
  | some (.box cs) => if es' = es ∧ leads (bn.1, key) cs = true then some (rows.length, H.set (bn.1, key) (.mat es (rows ++ [r]) n)) else none
  | _ => none
@[congr] theorem tbRowC_cg {bn : Nm} {key es es' n : Nat} {r : List (List PV)} {rows : List (List (List PV))} {b b' : Option Blk} (h : ∀ _ : Unit, b = b') : tbRowC H bn key es es' r rows n b = tbRowC H bn key es es' r rows n b' := by rw [h ()]
@[simp] theorem tbRowC_box {bn : Nm} {key es es' n : Nat} {r : List (List PV)} {rows : List (List (List PV))} {cs : List GV} : tbRowC H bn key es es' r rows n (some (.box cs)) =
  if es' = es ∧ leads (bn.1, key) cs = true then some (rows.length, H.set (bn.1, key) (.mat es (rows ++ [r]) n)) else none := .trans rfl rfl
@[simp] theorem tbRow_mat {bn : Nm} {key es es' n : Nat} {r : List (List PV)} {rows : List (List (List PV))} : tbRow H bn key es r (some (.mat es' rows n)) = tbRowC H bn key es es' r rows n (H.get bn) := by
 unfold tbRow tbRowC; rfl
@[simp] theorem addRow_def {bn : Nm} {key es : Nat} {r : List (List PV)} : addRow H bn key es r = if H.length ≤ bn.1 then none else tbRow H bn key es r (H.get (bn.1, key)) := by
 unfold addRow tbRow; rfl
def tbTell (H : Heap) (bytes : Nat) (s : GV) (nm : Nm) (es i len : Nat) (b : Option Blk) : Option (GV × Heap) := match b with
 | some (.mat es' rows n) =>
  if es' = es ∧ i = n ∧ n < rows.length ∧ (rows.getD n []).length = len ∧ (n + 1) * bytes ≤ 1099511627776 then
   match s with
   | .nils => if n = 0 then some (.hdr nm 1 1 0 1, H.set nm (.mat es rows 1)) else none
   | .hdr nm' es1 top lo ln => if nm' = nm ∧ es1 = 1 ∧ top = n ∧ lo = 0 ∧ ln = n then some (.hdr nm 1 (n + 1) 0 (n + 1), H.set nm (.mat es rows (n + 1))) else none
   | _ => none
  else none
 | _ => none
@[congr] theorem tbTell_cg {bytes : Nat} {s : GV} {nm : Nm} {es i len : Nat} {b b' : Option Blk} (h : ∀ _ : Unit, b = b') : tbTell H bytes s nm es i len b = tbTell H bytes s nm es i len b' := by rw [h ()]
@[simp] theorem tbTell_nils {bytes : Nat} {nm : Nm} {es es' i len n : Nat} {rows : List (List (List PV))} : tbTell H bytes .nils nm es i len (some (.mat es' rows n)) =
  if es' = es ∧ i = n ∧ n < rows.length ∧ (rows.getD n []).length = len ∧ (n + 1) * bytes ≤ 1099511627776 then (if n = 0 then some (.hdr nm 1 1 0 1, H.set nm (.mat es rows 1)) else none) else none := .trans rfl rfl
@[simp] theorem tbTell_hdr {bytes : Nat} {nm nm' : Nm} {es es' i len n es1 top lo ln : Nat} {rows : List (List (List PV))} : tbTell H bytes (.hdr nm' es1 top lo ln) nm es i len (some (.mat es' rows n)) =
  if es' = es ∧ i = n ∧ n < rows.length ∧ (rows.getD n []).length = len ∧ (n + 1) * bytes ≤ 1099511627776 then (if nm' = nm ∧ es1 = 1 ∧ top = n ∧ lo = 0 ∧ ln = n then some (.hdr nm 1 (n + 1) 0 (n + 1), H.set nm (.mat es rows (n + 1))) else none) else none := .trans rfl rfl
@[simp] theorem tellRow_def {bytes : Nat} {s : GV} {nm : Nm} {es i len : Nat} : tellRow H bytes s nm es i len = tbTell H bytes s nm es i len (H.get nm) := by
 unfold tellRow tbTell; rfl
def tbGap (ta : Option (Option Nat × Option Nat × Option Nat)) (k : Nat → Nat → Option (GV × Heap)) : Option (GV × Heap) :=
 match ta with
 | some (some size, some bytes, zs) => if zs = some size ∧ 0 < size ∧ 0 < bytes ∧ bytes ≤ 1048576 then k size bytes else none
 | _ => none
@[congr] theorem tbGap_cg {ta ta' : Option (Option Nat × Option Nat × Option Nat)} {k : Nat → Nat → Option (GV × Heap)} (h : ∀ _ : Unit, ta = ta') : tbGap ta k = tbGap ta' k := by rw [h ()]
@[simp] theorem tbGap_some {size bytes : Nat} {zs : Option Nat} {k : Nat → Nat → Option (GV × Heap)} : tbGap (some (some size, some bytes, zs)) k = if zs = some size ∧ 0 < size ∧ 0 < bytes ∧ bytes ≤ 1048576 then k size bytes else none := .trans rfl rfl
def tbLay (bn : Nm) (key size bytes : Nat) (x : Option (List (List PV) × Heap)) : Option (GV × Heap) := match x with
 | some (xs, H) => if xs.all (fun r => r.length == size) && !xs.isEmpty && decide (xs.length * bytes ≤ 1099511627776) then
   (match addRow H bn key size xs with | some (i, H) => some (.rhdr (bn.1, key) size i xs.length, H) | none => none) else none
 | none => none
@[congr] theorem tbLay_cg {bn : Nm} {key size bytes : Nat} {x x' : Option (List (List PV) × Heap)} (h : ∀ _ : Unit, x = x') : tbLay bn key size bytes x = tbLay bn key size bytes x' := by rw [h ()]
@[simp] theorem tbLay_some {bn : Nm} {key size bytes : Nat} {xs : List (List PV)} : tbLay bn key size bytes (some (xs, H)) = if xs.all (fun r => r.length == size) && !xs.isEmpty && decide (xs.length * bytes ≤ 1099511627776) then
      (match addRow H bn key size xs with | some (i, H) => some (.rhdr (bn.1, key) size i xs.length, H) | none => none) else none := .trans rfl rfl
@[simp] theorem layRow_nils {bn : Nm} {key size bytes : Nat} {x : GV} : layRow H bn key size bytes .nils x = tbLay bn key size bytes (gelems H x) := by
 unfold layRow tbLay
 cases gelems H x <;> rfl
theorem gappendR_def {bn : Nm} {key : Nat} {t : TypeId} {s x : GV} : gappendR K H bn key t s x = tbGap (tapp K.P t) fun size bytes => match rowLit x with | some (nm, es, i, len) => if size = 1 then tellRow H bytes s nm es i len else none | none => layRow H bn key size bytes s x := by
 unfold gappendR tbGap tapp
 cases telem K.P t with
 | none => rfl
 | some e =>
  simp only [Option.map_some]
  cases tsize K.P e with
  | none => rfl
  | some size =>
   cases tbytes K.P e with
   | none => rfl
   | some bytes =>
    simp only [Bool.and_eq_true, decide_eq_true_eq, and_assoc]
    rfl
@[simp] theorem gappendR_lits {bn : Nm} {key : Nat} {t : TypeId} {s : GV} {nm : Nm} {es i len : Nat} : gappendR K H bn key t s (.lits [[.rhdr nm es i len]]) = tbGap (tapp K.P t) fun size bytes => if size = 1 then tellRow H bytes s nm es i len else none := by
 rw [gappendR_def]; rfl
@[simp] theorem gappendR_pure {bn : Nm} {key : Nat} {t : TypeId} {s : GV} {p : PV} : gappendR K H bn key t s (.pure p) = tbGap (tapp K.P t) fun size bytes => layRow H bn key size bytes s (.pure p) := by
 rw [gappendR_def]; rfl
@[simp] theorem gappendR_hdr {bn : Nm} {key : Nat} {t : TypeId} {s : GV} {nm : Nm} {es top lo len : Nat} : gappendR K H bn key t s (.hdr nm es top lo len) = tbGap (tapp K.P t) fun size bytes => layRow H bn key size bytes s (.hdr nm es top lo len) := by
 rw [gappendR_def]; rfl
end
end
section
structure Scoring where
 packet : Int
 pair : Int
 whole : Int
 new : Int
 loss : Int
 keys : List Int
 deriving DecidableEq
structure Score where
 points : Int
 packets : Int
 wrong : Int
 pairs : Int
 new : Int
 whole : Int
 start : Int
 honour : Int
 deriving DecidableEq
def irow (n : Int) : List PV := [.int .i64 n]
def Scoring.row (s : Scoring) : List PV := [.int .i64 s.packet, .int .i64 s.pair, .int .i64 s.whole, .int .i64 s.new, .int .i64 s.loss, .slice (s.keys.map irow)]
def Score.row (x : Score) : List PV := [.int .i64 x.points, .int .i64 x.packets, .int .i64 x.wrong, .int .i64 x.pairs, .int .i64 x.new, .int .i64 x.whole, .int .i64 x.start, .int .i64 x.honour]
@[simp] theorem KC_keep {f : Nat} : KC.keep f = keepL.contains f := .trans rfl rfl
attribute [simp] keepL
@[simp] theorem clean_gdead {H : Heap} {l0 : Nat} : clean H l0 gdead = gdead := .trans rfl rfl
section
variable {f c : Nat} {H : Heap} {args : List GV} {p : PV}
theorem bor_c (hc : KC.cln f = false) (hb : KC.bor f = true) (hz : (frzVals H args).1.map canon = args) (hq : borBox args = some none) (hfl : flatP p = true) (hH : 0 < H.length)
  (h0 : ∀ H : Heap, 0 < H.length → gcall0 KC (geval KC) f args c H = some (.pure p, H)) : gcall KC (geval KC) f args c H = some (.pure p, H) := bor_flat KC hc hb hz hq hH h0 hfl
end
variable {c : Nat} {H : Heap}
def inB (x lo hi : Int) : Bool := decide (lo ≤ x) && decide (x ≤ hi)
theorem withinP_ok {x lo hi : Int} (hH : 0 < H.length) : gcall KC (geval KC) 100 [.pure (.int .i64 x), .pure (.int .i64 lo), .pure (.int .i64 hi)] c H = some (.pure (.bool (inB x lo hi)), H) := by
 refine WPv_eq (call_enter KC needT Tryz.func100 rfl rfl good100 rfl rfl rfl (by simp) hH ?_)
 by_cases h : lo ≤ x
 ·simp [h, inB, gleave_free]
 ·simp [h, inB, gleave_free]
theorem inB_iff {x lo hi : Int} : inB x lo hi = true ↔ lo ≤ x ∧ x ≤ hi := by simp [inB]
end

section
section
variable {K : Ctx} {fn : FuncId} {ty : TypeId} {pos : String} {af : Array Edge} {gu : Option (Nat × Bool)} {s : Slots} {H : Heap} {dst : Option Tmp}
@[simp] theorem tyKey_eq {t d : Nat} : tyKey t d = 1329227995784915872903807060280344576 + t * 4096 + d := .trans rfl rfl
@[simp] theorem tyName_eq {n : Nat} : tyName n = if n < 1329227995784915872903807060280344576 then none else some ((n - 1329227995784915872903807060280344576) / 4096) := .trans rfl rfl
def newBoxT (H : Heap) (t d : Nat) (x : Option (List GV)) : Option (GV × Heap) := match x with | some cs => rn (gnewT H (H.length - 1) t d (.box cs)) (fun nm => .bptr nm 0) | none => none
@[simp] theorem newBoxT_some {t d : Nat} {cs : List GV} : newBoxT H t d (some cs) = rn (gnewT H (H.length - 1) t d (.box cs)) (fun nm => .bptr nm 0) := .trans rfl rfl
@[simp] theorem gop_allocT {d : Nat} {t : TypeId} (ht : K.typ t = true) : gop K fn ⟨some d, .alloc t, ty, pos, af, gu⟩ s H = newBoxT H t d (cellsO' (tzero K.P t)) := by
 simp only [gop]
 cases h : tzero K.P t with
 | none => rfl
 | some z =>
  simp only [cellsO'_some, newBoxT]
  cases cellsO z with
  | none => rfl
  | some cs =>
   simp only [gnewE, ht, if_true]
   cases gnewT H (H.length - 1) t d (.box cs) with
   | none => rfl
   | some x => rfl
@[simp] theorem gnewT_cons {fr : Fr} {t d : Nat} {b : Blk} : gnewT (fr :: H) H.length t d b = if (fr.get (tyKey t d)).isSome then none else if tyName (tyKey t d) = some t then some ((H.length, tyKey t d), fr.ins (tyKey t d) b :: H) else none := by
 unfold gnewT
 simp only [List.length_cons]
 rw [if_neg (by omega)]
 simp only [Heap.get, Heap.set, if_true]
 cases fr.get (tyKey t d) <;> simp
@[simp] theorem gop_sliceData {x : Operand} {ts : Array TypeId} : gop K fn ⟨dst, .call ⟨.builtin .unsafeSliceData, #[x], ts⟩, ty, pos, af, gu⟩ s H =
  (match ev s x with | .hdr nm es top 0 _ => if 0 < top then some (.eptr nm es top 0 0, H) else none | _ => none) := by
 simp only [gop]; rfl
@[simp] theorem gop_unsafeString {x y : Operand} {pt it : TypeId} : gop K fn ⟨dst, .call ⟨.builtin .unsafeString, #[x, y], #[pt, it]⟩, ty, pos, af, gu⟩ s H = gunsafeStr K pt H (ev s x) (ev s y) := by
 simp only [gop]
end
def brow (b : UInt8) : List PV := [.int .u8 b.toNat]
theorem bytesOf_brow : ∀ l : List UInt8, bytesOf (l.map brow) = some l
 | [] => rfl
 | b :: l => by
  have h := b.toNat_lt
  have h1 : (0 : Int) ≤ b.toNat ∧ (b.toNat : Int) < 256 := by omega
  simp only [List.map_cons, brow, bytesOf]
  rw [if_pos h1]
  rw [bytesOf_brow l]
  simp
theorem brow_ne {l : List UInt8} : l.map brow = [] ↔ l = [] := List.map_eq_nil_iff
structure IsBld (ka : Nat) (H : Heap) (nm : Nm) (l : List UInt8) : Prop where
 lt : nm.1 < H.length
 ne : nm.2 ≠ ka
 box : ∃ a, (a = .pure .nilp ∨ a = .bptr nm 0) ∧ H.get nm = some (.box [a, apS (nm.1, ka) 1 (l.map brow)])
 arr : l ≠ [] → H.get (nm.1, ka) = some (.arr 1 (l.map brow) 0 false)
 none : l = [] → H.get (nm.1, ka) = none
def setB (ka : Nat) (H : Heap) (nm : Nm) (l : List UInt8) : Heap := if l = [] then H.set nm (.box [.bptr nm 0, .nils]) else (H.set nm (.box [.bptr nm 0, apS (nm.1, ka) 1 (l.map brow)])).set (nm.1, ka) (.arr 1 (l.map brow) 0 false)
theorem Heap.set_comm {n m : Nm} {x y : Blk} (h : n ≠ m) : ∀ {H : Heap}, (H.set n x).set m y = (H.set m y).set n x
 | [] => rfl
 | fr :: H => by
  by_cases e1 : n.1 = H.length
  ·by_cases e2 : m.1 = H.length
   ·have : n.2 ≠ m.2 := fun e => h (Prod.ext (e1.trans e2.symm) e)
    simp [e1, e2, Fr.ins_comm _ _ this.symm]
   ·simp [e1, e2]
  ·by_cases e2 : m.1 = H.length
   ·simp [e1, e2]
   ·simp [e1, e2, Heap.length_set, Heap.set_comm h (H := H)]
section
variable {ka : Nat} {H : Heap} {nm : Nm} {l l' : List UInt8}
theorem IsBld.nm_ne (h : IsBld ka H nm l) : nm ≠ (nm.1, ka) := fun e => h.ne (congrArg Prod.snd e)
@[simp] theorem setB_length : (setB ka H nm l).length = H.length := by unfold setB; split <;> simp [Heap.length_set]
theorem IsBld.up {fr : Fr} (h : IsBld ka H nm l) : IsBld ka (fr :: H) nm l := by
 have hne : ¬ nm.1 = H.length := by have := h.lt; omega
 obtain ⟨a, h1, h2⟩ := h.box
 refine ⟨by simp; have := h.lt; omega, h.ne, ⟨a, h1, by simp [hne, h2]⟩, fun hl => by simp [hne, h.arr hl], fun hl => by simp [hne, h.none hl]⟩
theorem setB_up {fr : Fr} (h : nm.1 < H.length) : setB ka (fr :: H) nm l = fr :: setB ka H nm l := by
 have hne : ¬ nm.1 = H.length := by omega
 unfold setB
 split <;> simp [hne, Heap.length_set]
theorem IsBld.set (h : IsBld ka H nm l) (hl : l = [] ∨ l' ≠ []) : IsBld ka (setB ka H nm l') nm l' := by
 have hn := h.nm_ne
 refine ⟨by rw [setB_length]; exact h.lt, h.ne, ⟨.bptr nm 0, .inr rfl, ?_⟩, fun h' => ?_, fun h' => ?_⟩
 ·unfold setB
  split
  ·rename_i e; subst e; rw [Heap.get_set _ h.lt]; rfl
  ·rw [Heap.get_set_other _ hn, Heap.get_set _ h.lt]
 ·unfold setB
  rw [if_neg h', Heap.get_set _ (by rw [Heap.length_set]; exact h.lt)]
 ·unfold setB
  rw [if_pos h', Heap.get_set_other _ (Ne.symm hn)]
  rcases hl with hl | hl
  ·exact h.none hl
  ·exact absurd h' hl
theorem setB_setB (h : IsBld ka H nm l) {l1 l2 : List UInt8} (h2 : l1 = [] ∨ l2 ≠ []) : setB ka (setB ka H nm l1) nm l2 = setB ka H nm l2 := by
 have hn := h.nm_ne
 unfold setB
 by_cases e1 : l1 = []
 ·subst e1
  simp only [if_true]
  split
  ·rw [Heap.set_set]
  ·rw [Heap.set_set]
 ·have e2 : l2 ≠ [] := by rcases h2 with h2 | h2; exact absurd h2 e1; exact h2
  rw [if_neg e1, if_neg e2, if_neg e2]
  rw [Heap.set_comm hn, Heap.set_set, Heap.set_comm (Ne.symm hn), Heap.set_set]
end
end
section
variable {c : Nat} {H : Heap}
theorem gop_appendT' {K : Ctx} {fn : FuncId} {ty : TypeId} {pos : String} {af : Array Edge} {gu : Option (Nat × Bool)} {s : Slots} {d : Nat} {x y : Operand} {t t2 : TypeId} (hs : spreads K.P (some t2) = true) (hr : K.row fn d = none) :
  gop K fn ⟨some d, .call ⟨.builtin .append, #[x, y], #[t, t2]⟩, ty, pos, af, gu⟩ s H = apV (upLevel H s (K.up fn d)) fun l => gappend K H l d t (ev s x) (ev s y) := by
 show (if spreads K.P (some t2) = true then (match K.row fn d with | none => (match upLevel H s (K.up fn d) with | some l => gappend K H l d t (ev s x) (ev s y) | none => none) | some key => (match upBox s (K.up fn d) with | some bn => gappendR K H bn key t (ev s x) (ev s y) | none => none)) else none) = _
 rw [if_pos hs, hr]
 cases upLevel H s (K.up fn d) <;> rfl
@[simp] theorem gstr_add {a b : List UInt8} : gstr .add a b = if a.length + b.length ≤ 4611686018427387904 then some (.str (a ++ b)) else none := .trans rfl rfl
@[simp] theorem gstr_eql {a b : List UInt8} : gstr .eql a b = some (.bool (a == b)) := .trans rfl rfl
@[simp] theorem gstr_neq {a b : List UInt8} : gstr .neq a b = some (.bool (!(a == b))) := .trans rfl rfl
noncomputable def kA : Nat := hid (tyKey 5 14)
theorem kA_def : kA = tyKey 5 14 := by rw [kA, hid_eq]
theorem kA_name : tyName kA = some 5 := by rw [kA_def]; simp
abbrev Bl (H : Heap) (nm : Nm) (l : List UInt8) : Prop := IsBld kA H nm l ∧ tyName nm.2 = some 105
theorem app_bld {G : Heap} {nm : Nm} {l s : List UInt8} (h : IsBld kA G nm l) (hs : s ≠ []) (hn : l.length + s.length ≤ 1099511627776) :
  gappend KC G nm.1 14 103 (apS (nm.1, kA) 1 (l.map brow)) (.pure (.str s)) = some (apS (nm.1, kA) 1 ((l ++ s).map brow), G.set (nm.1, kA) (.arr 1 ((l ++ s).map brow) 0 false)) := by
 have ht : telem KC.P 103 = some 5 := by kernel_rfl
 have h1 : tsize KC.P 5 = some 1 := by kernel_rfl
 have h2 : tbytes KC.P 5 = some 1 := by kernel_rfl
 have h3 : zsize KC.P 5 = some 1 := by kernel_rfl
 have h4 : KC.typ 5 = true := by kernel_rfl
 have hb : ((s.map brow).all fun r => r.length == 1) = true := by simp [brow]
 have hne : (s.map brow).isEmpty = false := by cases s with | nil => exact absurd rfl hs | cons _ _ => rfl
 have hlen : (s.map brow).length = s.length := List.length_map _
 have hx : gelems G (.pure (.str s)) = some (s.map brow, G) := rfl
 have hap : ∀ r : List UInt8, r ≠ [] → apS (nm.1, kA) 1 (r.map brow) = .hdr (nm.1, kA) 1 r.length 0 r.length := fun r hr => by
  unfold apS
  rw [if_neg (fun e => hr (brow_ne.1 e)), List.length_map]
 have hls : l ++ s ≠ [] := by simp [hs]
 unfold gappend
 simp only [ht, h1, h2, h3, hx, hb, decide_true, Bool.and_true, Bool.true_and, Nat.lt_irrefl, Nat.zero_lt_one, hne, hlen, if_true, Bool.false_eq_true, if_false, hap _ hls, show (1 : Nat) ≤ 1048576 from by decide]
 by_cases hl : l = []
 ·subst hl
  simp only [List.map_nil, apS_nil, List.nil_append]
  rw [if_pos (by simp at hn; omega)]
  simp only [gnewE, h4, if_true]
  have hf := h.none rfl
  have hk : gnewT G nm.1 5 14 (.arr 1 (s.map brow) 0 false) = some ((nm.1, kA), G.set (nm.1, kA) (.arr 1 (s.map brow) 0 false)) := by
   have hlt := h.lt
   unfold gnewT
   have hk2 : tyName kA = some 5 := kA_name
   rw [kA_def] at hf hk2 ⊢
   have hk3 : ¬ G.length ≤ nm.1 := by omega
   simp only [hk3, hf, hk2, if_true, if_false, Option.isSome_none, Bool.false_eq_true]
  rw [hk]
 ·rw [hap _ hl]
  simp only [h.arr hl]
  have hnm : nmOk KC 5 (nm.1, kA) = true := by
   unfold nmOk
   rw [h4, if_pos rfl, kA_name]
   rfl
  simp [hnm, hn]
def chk (a : GV) (G : Heap) (nm : Nm) (x : GV) : Heap := match a with | .bptr _ _ => G | _ => G.set nm (.box [.bptr nm 0, x])
theorem copy_ok {G : Heap} {nm : Nm} {a : GV} {x : GV} (hlt : nm.1 < G.length) (ha : a = .pure .nilp ∨ a = .bptr nm 0) (hg : G.get nm = some (.box [a, x])) (hT : tyName nm.2 = some 105) :
  gcall KC (geval KC) 90 [.bptr nm 0] c G = some (.pure (.tuple []), chk a G nm x) := by
 refine (gcall_ext KC (e := extCopy 105) (by kernel_rfl) (by rfl) (Nat.lt_of_le_of_lt (Nat.zero_le _) hlt)).trans ?_
 unfold extCopy
 rcases ha with rfl | rfl
 ·simp [hg, hT, chk, -tyName_eq]
 ·simp [hg, chk]
theorem IsBld.chk {ka : Nat} {nm : Nm} {l : List UInt8} (h : IsBld ka H nm l) : IsBld ka (H.set nm (.box [.bptr nm 0, apS (nm.1, ka) 1 (l.map brow)])) nm l :=
 ⟨by rw [Heap.length_set]; exact h.lt, h.ne, ⟨_, .inr rfl, Heap.get_set _ h.lt⟩, fun hl => by rw [Heap.get_set_other _ (Ne.symm h.nm_ne)]; exact h.arr hl,
  fun hl => by rw [Heap.get_set_other _ (Ne.symm h.nm_ne)]; exact h.none hl⟩
theorem write_ok {nm : Nm} {l s : List UInt8} (hB : Bl H nm l) (hs : s ≠ []) (hn : l.length + s.length ≤ 1099511627776) :
  gcall KC (geval KC) 50 [.bptr nm 0, .pure (.str s)] c H = some (.pure (.tuple [.int .i64 s.length, .nili]), setB kA H nm (l ++ s)) := by
 have hl := hB.1.lt
 have hne : ¬ nm.1 = H.length := by omega
 have hlt : nm.1 < H.length + 1 := by omega
 obtain ⟨a, ha, hg⟩ := hB.1.box
 have hls : l ++ s ≠ [] := by simp [hs]
 have hnn := hB.1.nm_ne
 have hni : ofConst Value.nilIface = .pure .nili := rfl
 have key : ∀ G : Heap, G.length = H.length → G.get nm = some (.box [.bptr nm 0, apS (nm.1, kA) 1 (l.map brow)]) → IsBld kA ([] :: G) nm l → (G.set (nm.1, kA) (.arr 1 ((l ++ s).map brow) 0 false)).set nm (.box [.bptr nm 0, apS (nm.1, kA) 1 ((l ++ s).map brow)]) = setB kA H nm (l ++ s) →
   (gcall KC (geval KC) 90 [.bptr nm 0] 7 ([] :: H) = some (.pure (.tuple []), [] :: G)) →
   gcall KC (geval KC) 50 [.bptr nm 0, .pure (.str s)] c H = some (.pure (.tuple [.int .i64 s.length, .nili]), setB kA H nm (l ++ s)) := by
  intro G hGl hGg hGb hGe hc
  have hne2 : ¬ nm.1 = G.length := by omega
  have hlt2 : nm.1 < G.length + 1 := by omega
  have hnn2 : ¬ nm = (nm.1, kA) := hnn
  have hap := app_bld hGb hs hn
  refine WPv_eq (call_enter KC needT Tryz.func50 rfl rfl good50 rfl rfl rfl (by simp) (by omega) ?_)
  simp [hne, hlt, gop_appendT', hc, hGg, hne2, hlt2, hni]
  rw [hap]
  simp [hne, hlt, gop_appendT', hc, hGg, hne2, hlt2, hni, Heap.get_set_other _ hnn, gleave_free]
  simpa using hGe
 rcases ha with rfl | rfl
 ·refine key (H.set nm (.box [.bptr nm 0, apS (nm.1, kA) 1 (l.map brow)])) (Heap.length_set ..) (Heap.get_set _ hl) hB.1.chk.up ?_ ?_
  ·unfold setB
   rw [if_neg hls, Heap.set_comm (Ne.symm hnn), Heap.set_set]
  ·have := copy_ok (c := 7) (G := [] :: H) hlt (.inl rfl) (by simpa [hne] using hg) hB.2
   rw [this]
   simp [chk, hne]
 ·refine key H rfl hg hB.1.up ?_ ?_
  ·unfold setB
   rw [if_neg hls, Heap.set_comm (Ne.symm hnn)]
  ·have := copy_ok (c := 7) (G := [] :: H) hlt (.inr rfl) (by simpa [hne] using hg) hB.2
   rw [this]
   rfl
theorem Bl.set {nm : Nm} {l l' : List UInt8} (h : Bl H nm l) (hl : l' ≠ []) : Bl (setB kA H nm l') nm l' := ⟨h.1.set (.inr hl), h.2⟩
theorem Bl.up {fr : Fr} {nm : Nm} {l : List UInt8} (h : Bl H nm l) : Bl (fr :: H) nm l := ⟨h.1.up, h.2⟩
theorem opPure_us {K : Ctx} {fn : FuncId} {dst : Option Tmp} {xs : Array Operand} {ts : Array TypeId} {ty : TypeId} {pos : String} {af : Array Edge} {gu : Option (Nat × Bool)} : opPure K fn ⟨dst, .call ⟨.builtin .unsafeString, xs, ts⟩, ty, pos, af, gu⟩ = false := rfl
theorem string_ok {nm : Nm} {l : List UInt8} (hB : Bl H nm l) (hs : l ≠ []) (hn : l.length ≤ 1099511627776) :
  gcall KC (geval KC) 52 [.bptr nm 0] c H = some (.pure (.str l), H.set (nm.1, kA) .gone) := by
 have hl := hB.1.lt
 have hne : ¬ nm.1 = H.length := by omega
 have hlt : nm.1 < H.length + 1 := by omega
 obtain ⟨a, ha, hg⟩ := hB.1.box
 have harr := hB.1.arr hs
 have hap : apS (nm.1, kA) 1 (l.map brow) = .hdr (nm.1, kA) 1 l.length 0 l.length := by
  unfold apS
  rw [if_neg (fun e => hs (brow_ne.1 e)), List.length_map]
 rw [hap] at hg
 have hp : 0 < l.length := List.length_pos_iff.2 hs
 refine WPv_eq (call_enter KC needT Tryz.func52 rfl rfl good52 rfl rfl rfl (by simp) (by omega) ?_)
 have hu : gunsafeStr KC 162 ([] :: H) (.eptr (nm.1, kA) 1 l.length 0 0) (.pure (.int .i64 l.length)) = some (.pure (.str l), [] :: H.set (nm.1, kA) .gone) := by
  have h1 : KC.P.underlying 162 = some (.pointer 5) := by kernel_rfl
  have h2 : tsize KC.P 5 = some 1 := by kernel_rfl
  have hg2 : Heap.get ([] :: H) (nm.1, kA) = some (.arr 1 (l.map brow) 0 false) := by simp [hne, harr]
  have htk : (l.map brow).take ((l.length : Int).toNat) = l.map brow := by rw [Int.toNat_natCast]; exact List.take_of_length_le (by simp)
  unfold gunsafeStr
  simp only [h1, hg2]
  rw [if_pos ⟨by omega, by simp, by omega, by simp, by omega, kA_name, h2⟩, htk, bytesOf_brow]
  simp [hne]
 simp [hne, hg, hp, hu, opPure_us, gleave_free]
end
section
variable {c : Nat} {H : Heap}
theorem itoa_ok {n : Int} (h0 : -9223372036854775808 ≤ n) (h1 : n ≤ 9223372036854775807) (hH : 0 < H.length) : gcall KC (geval KC) 51 [.pure (.int .i64 n)] c H = some (.pure (.str (itoaL n)), H) := by
 refine (gcall_ext KC (e := extItoa) (by kernel_rfl) (by rfl) hH).trans ?_
 unfold extItoa
 simp [h0, h1]
noncomputable def kB : Nat := hid (tyKey 105 5)
theorem kB_def : kB = tyKey 105 5 := by rw [kB, hid_eq]
theorem kB_name : tyName kB = some 105 := by rw [kB_def]; simp
def setF (F : Fr) (ka kb : Nat) (L : Nat) (l : List UInt8) : Fr := if l = [] then F.ins kb (.box [.bptr (L, kb) 0, .nils]) else (F.ins kb (.box [.bptr (L, kb) 0, apS (L, ka) 1 (l.map brow)])).ins ka (.arr 1 (l.map brow) 0 false)
theorem setB_top {ka kb : Nat} {F : Fr} {l : List UInt8} : setB ka (F :: H) (H.length, kb) l = setF F ka kb H.length l :: H := by
 unfold setB setF
 split <;> simp
theorem setF_get {ka kb k L : Nat} {F : Fr} {l : List UInt8} (h1 : k ≠ ka) (h2 : k ≠ kb) : (setF F ka kb L l).get k = F.get k := by
 unfold setF
 split
 ·rw [Fr.get_ins_other _ h2]
 ·rw [Fr.get_ins_other _ h1, Fr.get_ins_other _ h2]
theorem Bl.setF {kb : Nat} {F : Fr} {l l' : List UInt8} (h : Bl (F :: H) (H.length, kb) l) (hl : l' ≠ []) : Bl (Go.Gh.setF F kA kb H.length l' :: H) (H.length, kb) l' := by
 have := h.set hl
 rwa [setB_top] at this
theorem setF_setF {kb : Nat} {F : Fr} {l l1 l2 : List UInt8} (h : Bl (F :: H) (H.length, kb) l) (h2 : l2 ≠ []) : Go.Gh.setF (Go.Gh.setF F kA kb H.length l1) kA kb H.length l2 = Go.Gh.setF F kA kb H.length l2 := by
 have := setB_setB h.1 (l1 := l1) (l2 := l2) (.inr h2)
 rw [setB_top, setB_top, setB_top] at this
 exact (List.cons.inj this).1
theorem digs_len : ∀ f u, (digs f u).length ≤ f
 | 0, u => by simp [digs]
 | f + 1, u => by
  rw [digs]
  split
  ·simp
  ·have := digs_len f (u / 10)
   simp
   omega
theorem itoaL_len (n : Int) : (itoaL n).length ≤ 21 := by
 unfold itoaL
 split
 ·have := digs_len 20 n.natAbs
  simp
  omega
 ·have := digs_len 20 n.toNat
  omega
theorem flat_len {α : Type} {g : α → List UInt8} {m : Nat} (h : ∀ x, (g x).length ≤ m) : ∀ l : List α, (l.flatMap g).length ≤ m * l.length
 | [] => by simp
 | x :: l => by
  have h1 := flat_len h l
  have h2 := h x
  simp only [List.flatMap_cons, List.length_append, List.length_cons, Nat.mul_add]
  omega
noncomputable def numV : List UInt8 → Option Int := hid fun w => match Lib.atoiAll w with
 | .ok n => if 0 ≤ n ∧ w.length ≤ 4 ∧ itoaL n = w then some n else none
 | _ => none
theorem numV_def (w : List UInt8) : numV w = (match Lib.atoiAll w with
 | .ok n => if 0 ≤ n ∧ w.length ≤ 4 ∧ itoaL n = w then some n else none
 | _ => none) := by rw [numV, hid_eq]
def srow (w : List UInt8) : List PV := [.str w]
theorem atoi_rng {w : List UInt8} {n : Int} (h : Lib.atoiAll w = .ok n) : -9223372036854775808 ≤ n ∧ n ≤ 9223372036854775807 := by
 unfold Lib.atoiAll at h
 split at h
 ·cases h
 ·rename_i c r
  simp only at h
  split at h
  ·cases h
  ·cases h
  ·split at h
   ·cases h
   ·rename_i h1
    split at h
    ·cases h
    ·rename_i h2
     injection h with h
     subst h
     split <;> omega
theorem splitL_len (c : UInt8) : ∀ l, (splitL c l).length ≤ l.length + 1
 | [] => by simp [splitL]
 | b :: r => by
  have := splitL_len c r
  rw [splitL]
  split
  ·simp; omega
  ·split
   ·rename_i x l h
    rw [h] at this
    simp at this ⊢
    omega
   ·simp
theorem splitL_mem (c : UInt8) : ∀ l, ∀ w ∈ splitL c l, w.length ≤ l.length
 | [], w, h => by simp [splitL] at h; subst h; simp
 | b :: r, w, h => by
  have ih := splitL_mem c r
  rw [splitL] at h
  split at h
  ·rcases List.mem_cons.1 h with rfl | h
   ·simp
   ·have := ih w h; simp; omega
  ·split at h
   ·rename_i x l hl
    rw [hl] at ih
    rcases List.mem_cons.1 h with rfl | h
    ·have := ih x List.mem_cons_self; simp; omega
    ·have := ih w (List.mem_cons_of_mem _ h); simp; omega
   ·simp at h; subst h; simp
theorem split_ok {s : List UInt8} {b : UInt8} (hs : s.length < 4294967281) (hH : 0 < H.length) : gcall KC (geval KC) 55 [.pure (.str s), .pure (.str [b])] c H = some (.pure (.slice ((splitL b s).map srow)), H) := by
 refine (gcall_ext KC (e := extSplit) (by kernel_rfl) (by rfl) hH).trans ?_
 unfold extSplit
 simp only [hs, if_true]
 rfl
end
def joinL (c : UInt8) : List (List UInt8) → List UInt8
 | [] => []
 | [x] => x
 | x :: y :: r => x ++ c :: joinL c (y :: r)
theorem joinL_cons {c : UInt8} {x : List UInt8} {l : List (List UInt8)} (h : l ≠ []) : joinL c (x :: l) = x ++ c :: joinL c l := by
 cases l with
 | nil => exact absurd rfl h
 | cons y r => rfl
theorem split_word {c : UInt8} : ∀ {w : List UInt8}, c ∉ w → splitL c w = [w]
 | [], _ => rfl
 | b :: w, h => by
  have hb : ¬ b = c := fun e => h (by rw [e]; exact List.mem_cons_self)
  rw [splitL, if_neg hb, split_word (w := w) fun e => h (List.mem_cons_of_mem _ e)]
theorem split_app {c : UInt8} : ∀ {w : List UInt8} (r : List UInt8), c ∉ w → splitL c (w ++ c :: r) = w :: splitL c r
 | [], r, _ => by rw [List.nil_append, splitL, if_pos rfl]
 | b :: w, r, h => by
  have hb : ¬ b = c := fun e => h (by rw [e]; exact List.mem_cons_self)
  rw [List.cons_append, splitL, if_neg hb, split_app r fun e => h (List.mem_cons_of_mem _ e)]
theorem split_rows {c : UInt8} : ∀ {rows : List (List UInt8)} , (∀ w ∈ rows, c ∉ w) → splitL c (rows.flatMap fun w => w ++ [c]) = rows ++ [[]]
 | [], _ => rfl
 | w :: r, h => by
  have ih := split_rows (rows := r) fun x hx => h x (List.mem_cons_of_mem _ hx)
  rw [List.flatMap_cons, List.append_assoc, List.singleton_append, split_app _ (h w List.mem_cons_self), ih]
  rfl
theorem split_words {c : UInt8} : ∀ {ws : List (List UInt8)}, ws ≠ [] → (∀ w ∈ ws, c ∉ w) → splitL c (joinL c ws) = ws
 | [], h, _ => absurd rfl h
 | [w], _, h => split_word (h w List.mem_cons_self)
 | w :: y :: r, _, h => by
  rw [joinL_cons (by simp), split_app _ (h w List.mem_cons_self), split_words (by simp) fun x hx => h x (List.mem_cons_of_mem _ hx)]
theorem digs_mem : ∀ (f u : Nat), ∀ b ∈ digs f u, 48 ≤ b.toNat ∧ b.toNat ≤ 57
 | 0, u, b, h => by simp [digs] at h
 | f + 1, u, b, h => by
  rw [digs] at h
  split at h
  ·rw [List.mem_singleton] at h
   subst h
   rw [UInt8.toNat_ofNat']
   omega
  ·rcases List.mem_append.1 h with h | h
   ·exact digs_mem f _ b h
   ·rw [List.mem_singleton] at h
    subst h
    rw [UInt8.toNat_ofNat']
    omega
theorem itoa_mem {n : Int} (h0 : 0 ≤ n) : ∀ b ∈ itoaL n, 48 ≤ b.toNat ∧ b.toNat ≤ 57 := by
 intro b h
 unfold itoaL at h
 rw [if_neg (by omega)] at h
 exact digs_mem _ _ b h
theorem itoa_no {n : Int} (h0 : 0 ≤ n) {c : UInt8} (hc : c.toNat < 48) : c ∉ itoaL n := fun h => by
 have := itoa_mem h0 c h
 omega
theorem digs_short : ∀ (f u k : Nat), u < 10 ^ k → 1 ≤ k → (digs f u).length ≤ k
 | 0, u, k, h, _ => by simp [digs]
 | f + 1, u, k, h, hk => by
  rw [digs]
  split
  ·simp; exact hk
  ·rename_i h1
   have hk2 : 2 ≤ k := by
    rcases Nat.lt_or_ge k 2 with h2 | h2
    ·have : k = 1 := by omega
     subst this
     omega
    ·exact h2
   obtain ⟨j, rfl⟩ : ∃ j, k = j + 1 := ⟨k - 1, by omega⟩
   have := digs_short f (u / 10) j (by rw [Nat.pow_succ] at h; omega) (by omega)
   simp
   exact this
theorem itoa_short {n : Int} (h0 : 0 ≤ n) (h1 : n < 10000) : (itoaL n).length ≤ 4 := by
 unfold itoaL
 rw [if_neg (by omega)]
 exact digs_short _ _ 4 (by omega) (by omega)
theorem digs_ne : ∀ (f u : Nat), 0 < f → digs f u ≠ []
 | f + 1, u, _ => by
  rw [digs]
  split <;> simp
theorem parse_app : ∀ (l : List UInt8) (acc u : Nat) (d : Nat), Lib.parseUint10 acc l = .ok u → u < 1000000000 → d < 10 → Lib.parseUint10 acc (l ++ [UInt8.ofNat (48 + d)]) = .ok (u * 10 + d)
 | [], acc, u, d, h, hu, hd => by
  simp only [Lib.parseUint10] at h
  injection h with h
  subst h
  have hb : (UInt8.ofNat (48 + d)).toNat = 48 + d := by rw [UInt8.toNat_ofNat']; omega
  rw [List.nil_append, Lib.parseUint10, hb, if_pos (by omega), if_neg (by omega), if_neg (by omega)]
  have : 48 + d - 48 = d := by omega
  rw [this, Lib.parseUint10]
 | c :: r, acc, u, d, h, hu, hd => by
  rw [Lib.parseUint10] at h
  rw [List.cons_append, Lib.parseUint10]
  split at h
  ·rename_i h1
   rw [if_pos h1]
   split at h
   ·cases h
   ·rename_i h2
    rw [if_neg h2]
    split at h
    ·cases h
    ·rename_i h3
     rw [if_neg h3]
     exact parse_app r _ u d h hu hd
  ·cases h
theorem parse_digs : ∀ (f u : Nat), u < 10 ^ f → u < 1000000000 → 0 < f → Lib.parseUint10 0 (digs f u) = .ok u
 | f + 1, u, h, hu, _ => by
  rw [digs]
  split
  ·rename_i h1
   have := parse_app [] 0 0 u rfl (by omega) h1
   rw [List.nil_append] at this
   rw [this]
   congr 1
   omega
  ·rename_i h1
   have hf : 0 < f := by
    rcases Nat.eq_zero_or_pos f with e | e
    ·subst e; simp at h; omega
    ·exact e
   have ih := parse_digs f (u / 10) (by rw [Nat.pow_succ] at h; omega) (by omega) hf
   rw [parse_app _ 0 (u / 10) (u % 10) ih (by omega) (by omega)]
   congr 1
   omega
theorem atoi_itoa {n : Int} (h0 : 0 ≤ n) (h1 : n < 1000000) : Lib.atoiAll (itoaL n) = .ok n := by
 have hm := itoa_mem h0
 unfold itoaL at hm ⊢
 rw [if_neg (by omega)] at hm ⊢
 have hp := parse_digs 20 n.toNat (by omega) (by omega) (by omega)
 have hne := digs_ne 20 n.toNat (by omega)
 cases hd : digs 20 n.toNat with
 | nil => exact absurd hd hne
 | cons b r =>
  rw [hd] at hp hm
  have hb := hm b List.mem_cons_self
  unfold Lib.atoiAll
  simp only
  rw [if_neg (by omega)]
  unfold Lib.parseMag
  rw [if_neg (by simp), hp]
  simp only
  rw [if_neg (by omega), if_neg (by omega), if_neg (by omega)]
  congr 1
  omega
theorem numV_itoa {n : Int} (h0 : 0 ≤ n) (h1 : n < 10000) : numV (itoaL n) = some n := by
 rw [numV_def, atoi_itoa h0 (by omega)]
 have := itoa_short h0 h1
 simp only
 rw [if_pos ⟨h0, by omega, trivial⟩]
section
variable {c : Nat} {H : Heap}
noncomputable def turnS : Int → Int := hid fun w => IntKind.u64.wrap (w + 11507291218515648293)
theorem turnS_def (w : Int) : turnS w = IntKind.u64.wrap (w + 11507291218515648293) := by rw [turnS, hid_eq]
def xors (x n : Int) : Int := bxor .u64 x (x.fdiv n)
noncomputable def turnV : Int → Int := hid fun w => xors (IntKind.u64.wrap (xors (IntKind.u64.wrap (xors (IntKind.u64.wrap (w + 11507291218515648293)) 4294967296 * 15485907386658061715)) 536870912 * 14029467366897019727)) 4294967296
theorem turnV_def (w : Int) : turnV w = xors (IntKind.u64.wrap (xors (IntKind.u64.wrap (xors (IntKind.u64.wrap (w + 11507291218515648293)) 4294967296 * 15485907386658061715)) 536870912 * 14029467366897019727)) 4294967296 := by rw [turnV, hid_eq]
theorem u64_rng (x : Int) : 0 ≤ IntKind.u64.wrap x ∧ IntKind.u64.wrap x ≤ 18446744073709551615 := by rw [IntKind.wrap_u64]; omega
theorem turnV_rng (w : Int) : 0 ≤ turnV w ∧ turnV w ≤ 18446744073709551615 := by rw [turnV_def]; exact u64_rng _
@[simp] theorem bits_u64 : IntKind.u64.bits = 64 := rfl
@[simp] theorem bits_i64 : IntKind.i64.bits = 64 := rfl
theorem turn_ok {nm : Nm} (hB : isBox H nm) : gcall KC (geval KC) 47 [.bptr nm 0] c H = some (.pure (.int .u64 (turnV (wordAt H nm))), H.set nm (wbox (turnS (wordAt H nm)))) := by
 have hl := isBox_lt hB
 have hg := isBox_get hB
 refine WPv_eq (call_enter KC needT Tryz.func47 rfl rfl good47 rfl rfl rfl (by simp) (by omega) ?_)
 have hne : ¬ nm.1 = H.length := by omega
 have h1 : (IntKind.u64.wrap 32) = 32 := rfl
 generalize wordAt H nm = w at *
 unfold wbox at *
 simp [hne, hl, hg, gleave_free, turnV_def, turnS_def, xors]
noncomputable def upR : Int → Int → Int × Int := hid fun w n =>
 if n < 2 then (0, w) else (IntKind.i64.wrap (((turnV w).fdiv 2).tmod (IntKind.u64.wrap n)), turnS w)
theorem upR_def (w : Int) (n : Int) : upR w n =
 (if n < 2 then (0, w) else (IntKind.i64.wrap (((turnV w).fdiv 2).tmod (IntKind.u64.wrap n)), turnS w)) := by rw [upR, hid_eq]
theorem upR_rng (w n : Int) (h : n ≤ 9223372036854775807) : 0 ≤ (upR w n).1 ∧ ((upR w n).1 < n ∨ (upR w n).1 = 0) := by
 rw [upR_def]
 split
 ·simp
 ·have h1 := turnV_rng w
  have h2 : IntKind.u64.wrap n = n := by rw [IntKind.wrap_u64]; omega
  have h3 : 0 ≤ (turnV w).fdiv 2 := Int.fdiv_nonneg h1.1 (by omega)
  rw [h2, Int.tmod_eq_emod_of_nonneg h3]
  have h4 := Int.emod_nonneg ((turnV w).fdiv 2) (show n ≠ 0 by omega)
  have h5 := Int.emod_lt_of_pos ((turnV w).fdiv 2) (show 0 < n by omega)
  rw [w64 (by omega) (by omega)]
  exact ⟨h4, .inl h5⟩
theorem up_ok {nm : Nm} {n : Int} (hB : isBox H nm) (hn : n ≤ 9223372036854775807) : gcall KC (geval KC) 42 [.bptr nm 0, .pure (.int .i64 n)] c H = some (.pure (.int .i64 (upR (wordAt H nm) n).1), H.set nm (wbox (upR (wordAt H nm) n).2)) := by
 have hl := isBox_lt hB
 have hs := isBox_set hB
 refine WPv_eq (call_enter KC needT Tryz.func42 rfl rfl good42 rfl rfl rfl (by simp) (by omega) ?_)
 have hne : ¬ nm.1 = H.length := by omega
 by_cases h : n < 2
 ·simp [h, upR_def, hs, gleave_free]
 ·have h2 : IntKind.u64.wrap n = n := by rw [IntKind.wrap_u64]; omega
  have h3 : ¬ n = 0 := by omega
  have h4 : ¬ IntKind.u64.wrap n = 0 := by rw [h2]; exact h3
  simp [h, upR_def, turn_ok (isBox_up hB), wordAt_up hl, Heap.set_up hl, gleave_free, h4]
noncomputable def anyR : Int → Int → Int → Int × Int := hid fun w lo hi =>
 let r := upR w (IntKind.i64.wrap (IntKind.i64.wrap (hi - lo) + 1))
 (IntKind.i64.wrap (lo + r.1), r.2)
theorem anyR_def (w : Int) (lo : Int) (hi : Int) : anyR w lo hi =
 (let r := upR w (IntKind.i64.wrap (IntKind.i64.wrap (hi - lo) + 1))
 (IntKind.i64.wrap (lo + r.1), r.2)) := by rw [anyR, hid_eq]
theorem i64_rng (x : Int) : -9223372036854775808 ≤ IntKind.i64.wrap x ∧ IntKind.i64.wrap x ≤ 9223372036854775807 := by rw [IntKind.wrap_i64]; omega
theorem anyR_rng (w lo hi : Int) (h0 : -4611686018427387903 ≤ lo) (h1 : hi ≤ 4611686018427387903) (h : lo ≤ hi) : lo ≤ (anyR w lo hi).1 ∧ (anyR w lo hi).1 ≤ hi := by
 rw [anyR_def]
 rw [w64 (x := hi - lo) (by omega) (by omega), w64 (x := hi - lo + 1) (by omega) (by omega)]
 have := upR_rng w (hi - lo + 1) (by omega)
 simp only
 rw [w64 (by omega) (by omega)]
 omega
theorem any_ok {nm : Nm} {lo hi : Int} (hB : isBox H nm) : gcall KC (geval KC) 46 [.bptr nm 0, .pure (.int .i64 lo), .pure (.int .i64 hi)] c H = some (.pure (.int .i64 (anyR (wordAt H nm) lo hi).1), H.set nm (wbox (anyR (wordAt H nm) lo hi).2)) := by
 have hl := isBox_lt hB
 refine WPv_eq (call_enter KC needT Tryz.func46 rfl rfl good46 rfl rfl rfl (by simp) (by omega) ?_)
 have hr := (i64_rng (IntKind.i64.wrap (hi - lo) + 1)).2
 simp [anyR_def, up_ok (isBox_up hB) hr, wordAt_up hl, Heap.set_up hl, gleave_free]
noncomputable def oneR : Int → Int → Bool × Int := hid fun w n =>
 ((upR w n).1 == 0, (upR w n).2)
theorem oneR_def (w : Int) (n : Int) : oneR w n =
 (((upR w n).1 == 0, (upR w n).2)) := by rw [oneR, hid_eq]
theorem one_ok {nm : Nm} {n : Int} (hB : isBox H nm) (hn : n ≤ 9223372036854775807) : gcall KC (geval KC) 27 [.bptr nm 0, .pure (.int .i64 n)] c H = some (.pure (.bool (oneR (wordAt H nm) n).1), H.set nm (wbox (oneR (wordAt H nm) n).2)) := by
 have hl := isBox_lt hB
 refine WPv_eq (call_enter KC needT Tryz.func27 rfl rfl good27 rfl rfl rfl (by simp) (by omega) ?_)
 simp [oneR_def, up_ok (isBox_up hB) hn, wordAt_up hl, Heap.set_up hl, gleave_free]
noncomputable def pickR : Int → List Int → Int × Int := hid fun w l =>
 if l.length = 0 then (0, w) else (l.getD (upR w l.length).1.toNat 0, (upR w l.length).2)
theorem pickR_def (w : Int) (l : List Int) : pickR w l =
 (if l.length = 0 then (0, w) else (l.getD (upR w l.length).1.toNat 0, (upR w l.length).2)) := by rw [pickR, hid_eq]
theorem pick_ok {nm : Nm} {l : List Int} (hB : isBox H nm) (hn : l.length < 4611686018427387904) : gcall KC (geval KC) 44 [.bptr nm 0, .pure (.slice (l.map irow))] c H = some (.pure (.int .i64 (pickR (wordAt H nm) l).1), H.set nm (wbox (pickR (wordAt H nm) l).2)) := by
 have hl := isBox_lt hB
 have hs := isBox_set hB
 refine WPv_eq (call_enter KC needT Tryz.func44 rfl rfl good44 rfl rfl rfl (by simp) (by omega) ?_)
 by_cases h : l.length = 0
 ·obtain rfl : l = [] := List.length_eq_zero_iff.1 h
  simp [pickR_def, hs, gleave_free]
 ·have h2 : ((l.length : Int) == 0) = false := beq_eq_false_iff_ne.2 (by omega)
  have hr := upR_rng (wordAt H nm) l.length (by omega)
  have h3 : ¬ (upR (wordAt H nm) l.length).1 < 0 := by omega
  have h4 : (upR (wordAt H nm) l.length).1.toNat < l.length := by have := hr; clear hl hs hB; omega
  simp [h, h2, pickR_def, up_ok (isBox_up hB) (show (l.length : Int) ≤ 9223372036854775807 by omega), wordAt_up hl, Heap.set_up hl, gleave_free, h3, h4, irow]
theorem gleave_keep {K : Ctx} {f : Nat} {c : Nat} {r : GV} {fr : Fr} (h : K.keep f = true) : gleave K f c r (fr :: H) = (match moveOut (clM c fr H (dedup (deepRefs fr H.length (refs H.length r))) (H.length - 1)) fr H c (dedup (deepRefs fr H.length (refs H.length r))) H with | some H' => some (ren H.length c r, H') | none => none) := by
 unfold gleave; simp only [h, if_true]; rfl
theorem box_loop (l : List Int) (hn : l.length ≤ 9223372036854775807) (Q : GX → GSt → Prop) (hH : 0 < H.length) : ∀ (k i : Nat) (w : Int), i + k = l.length →
  (∀ w', Q (.exit 0) ⟨[(3, .bptr (H.length, 6) 0)], [(6, wbox w')] :: H, 30⟩) →
  WPL KC needT 10 (lp Tryz.f10 0) [0, 3, 4] [3] Q [(0, .pure (.slice (l.map irow))), (3, .bptr (H.length, 6) 0), (4, .pure (.int .i64 i))] ([(6, wbox w)] :: H) 30 := by
 intro k
 induction k with
 | zero =>
  intro i w hi h1
  have hia : ¬ i < l.length := by omega
  apply WPL_step
  conv => arg 4; whnf
  simp [hia, hH]
  exact h1 w
 | succ k ih =>
  intro i w hi h1
  have hia : i < l.length := by omega
  have hw := w64 (x := (i : Int) + 1) (by omega) (by omega)
  have ih' := fun w => ih (i + 1) w (by omega) h1
  apply WPL_step
  conv => arg 4; whnf
  have T := fun (v : Int) (c : Nat) => turn_ok (c := c) (H := [] :: [(6, wbox v)] :: H) (nm := (H.length, 6)) ⟨v, by simp, by simp⟩
  simp [wordAt, wbox] at T
  simp [hia, hH, irow, hw, wbox, T]
  simpa [wbox] using ih' _
theorem BoxOf_ok (l : List Int) (hn : l.length ≤ 9223372036854775807) (hH : 0 < H.length) (hfree : H.get (H.length - 1, newKey c 6) = none) (hcc : newKey c 6 < tyBase) :
  ∃ w, gcall KC (geval KC) 10 [.pure (.slice (l.map irow))] c H = some (.bptr (H.length - 1, newKey c 6) 0, H.set (H.length - 1, newKey c 6) (wbox w)) := by
 have key : WPv (gcall KC (geval KC) 10 [.pure (.slice (l.map irow))] c H) (fun x => ∃ w, x = (.bptr (H.length - 1, newKey c 6) 0, H.set (H.length - 1, newKey c 6) (wbox w))) := by
  refine call_enter KC needT Tryz.func10 rfl rfl good10 rfl rfl rfl (by simp) hH ?_
  have h0 := fun Q hq => box_loop l hn Q hH l.length 0 2685821657736338717 (by omega) hq
  simp [wbox] at h0
  simp
  refine h0 _ (fun w => ?_)
  simp [gleave_keep, KC_keep, refs, refs2, refs1, deepRefs, boxRefs, matRefs, dedup, moveOut, cleanBlk, clM, tyOk_lt hcc, hfree, ren, ren2, ren1]
  exact ⟨w, rfl⟩
 obtain ⟨r, e1, w, e2⟩ := key
 exact ⟨w, by rw [e1, e2]⟩
end
section
variable {c : Nat} {H : Heap}
theorem getD_lt {α : Type} {l : List α} {i : Nat} {d : α} (h : i < l.length) : l.getD i d = l[i] := by simp [List.getD_eq_getElem?_getD, h]
def firstE (g : Int → Int) : List Int → Int
 | [] => 0
 | x :: r => if g x ≠ 0 then g x else firstE g r
theorem drop_nil {α : Type} {l : List α} {i : Nat} (h : l.length ≤ i) : l.drop i = [] := List.drop_of_length_le h
theorem drop_cons {α : Type} {l : List α} {i : Nat} (h : i < l.length) : l.drop i = l[i] :: l.drop (i + 1) := List.drop_eq_getElem_cons h
def idxF (x : Int) : List Int → Nat → Int
 | [], _ => -1
 | y :: r, i => if x = y then i else idxF x r (i + 1)
theorem idxF_nn (x : Int) : ∀ (l : List Int) (i : Nat), decide (0 ≤ idxF x l i) = l.contains x
 | [], i => by simp [idxF]
 | y :: r, i => by
  by_cases h : x = y
  ·subst h; simp [idxF]
  ·have := idxF_nn x r (i + 1)
   simp only [idxF, if_neg h, this, List.contains_cons]
   simp [h]
theorem index_loop (l : List Int) (x : Int) (hn : l.length ≤ 1000000) (Q : GX → GSt → Prop) (hH : 0 < H.length) : ∀ k i : Nat, i + k = l.length →
  (idxF x (l.drop i) i = -1 → Q (.exit 0) ⟨[(4, gdead)], H, 19⟩) → (0 ≤ idxF x (l.drop i) i → Q .ret ⟨[(4, .pure (.int .i64 (idxF x (l.drop i) i)))], H, 19⟩) →
  WPL KC needT 137 (lp Tryz.f137 0) [0, 1, 7, 8] [4] Q [(0, .pure (.slice (l.map irow))), (1, .pure (.int .i64 x)), (7, .pure (.int .i64 l.length)), (8, .pure (.int .i64 i))] H 19 := by
 intro k
 induction k with
 | zero =>
  intro i hi h1 h2
  rw [drop_nil (by omega)] at h1
  apply WPL_step
  conv => arg 4; whnf
  have : ¬ i < l.length := by omega
  simp [this, hH]
  exact h1 rfl
 | succ k ih =>
  intro i hi h1 h2
  have hia : i < l.length := by omega
  have hw := w64 (x := (i : Int) + 1) (by omega) (by omega)
  rw [drop_cons hia] at h1 h2
  unfold idxF at h1 h2
  apply WPL_step
  conv => arg 4; whnf
  by_cases he : x = l[i]
  ·rw [if_pos he] at h1 h2
   simp [hia, hH, irow, he]
   exact h2 (by omega)
  ·have he' : (x == l[i]) = false := by simpa using he
   rw [if_neg he] at h1 h2
   simp [hia, hH, irow, he', hw]
   simpa [irow] using ih (i + 1) (by omega) h1 h2
theorem index_ok (l : List Int) (x : Int) (hn : l.length ≤ 1000000) (hH : 0 < H.length) : gcall KC (geval KC) 137 [.pure (.slice (l.map irow)), .pure (.int .i64 x)] c H = some (.pure (.int .i64 (idxF x l 0)), H) := by
 refine WPv_eq (call_enter KC needT Tryz.func137 rfl rfl good137 rfl rfl rfl (by simp) hH ?_)
 have L := fun Q => index_loop (H := [] :: H) l x hn Q (by simp) l.length 0 (by omega)
 simp only [List.drop_zero] at L
 simp
 refine L _ (fun h => ?_) (fun h => ?_)
 ·simp [h, gleave_free]
 ·simp [gleave_free]
theorem contains_ok (l : List Int) (x : Int) (hn : l.length ≤ 1000000) (hH : 0 < H.length) : gcall KC (geval KC) 114 [.pure (.slice (l.map irow)), .pure (.int .i64 x)] c H = some (.pure (.bool (l.contains x)), H) := by
 refine WPv_eq (call_enter KC needT Tryz.func114 rfl rfl good114 rfl rfl rfl (by simp) hH ?_)
 have I := fun c (H : Heap) (hH : 0 < H.length) => index_ok (c := c) (H := H) l x hn hH
 have e := idxF_nn x l 0
 simp only [List.contains_eq_mem] at e
 simp [I, gleave_free]
 simpa using e
theorem count_loop (l : List Int) (x : Int) (hn : l.length ≤ 1000000) (Q : GX → GSt → Prop) (hH : 0 < H.length) : ∀ k i n : Nat, i + k = l.length → n ≤ i →
  Q (.exit 0) ⟨[(5, .pure (.int .i64 ((n + (l.drop i).count x : Nat) : Int)))], H, 21⟩ →
  WPL KC needT 101 (lp Tryz.f101 0) [1, 5, 8, 9, 10] [5] Q [(1, .pure (.int .i64 x)), (5, .pure (.int .i64 (n : Int))), (8, .pure (.slice (l.map irow))), (9, .pure (.int .i64 l.length)), (10, .pure (.int .i64 i))] H 21 := by
 intro k
 induction k with
 | zero =>
  intro i n hi hni h1
  rw [drop_nil (by omega)] at h1
  apply WPL_step
  conv => arg 4; whnf
  have : ¬ i < l.length := by omega
  simp [this, hH]
  simpa using h1
 | succ k ih =>
  intro i n hi hni h1
  have hia : i < l.length := by omega
  have hw := w64 (x := (i : Int) + 1) (by omega) (by omega)
  have hw2 := w64 (x := (n : Int) + 1) (by omega) (by omega)
  rw [drop_cons hia, List.count_cons] at h1
  apply WPL_step
  conv => arg 4; whnf
  by_cases he : l[i] = x
  ·have ih' := ih (i + 1) (n + 1) (by omega) (by omega) (by
    have e : n + 1 + (l.drop (i + 1)).count x = n + ((l.drop (i + 1)).count x + if (l[i] == x) = true then 1 else 0) := by simp [he]; omega
    rw [e]; exact h1)
   simp [hia, hH, irow, he, hw, hw2]
   simpa [irow] using ih'
  ·have he' : (l[i] == x) = false := by simpa using he
   have ih' := ih (i + 1) n (by omega) (by omega) (by
    have e : n + (l.drop (i + 1)).count x = n + ((l.drop (i + 1)).count x + if (l[i] == x) = true then 1 else 0) := by simp [he]
    rw [e]; exact h1)
   simp [hia, hH, irow, he', hw]
   simpa [irow] using ih'
theorem count_ok (l : List Int) (x : Int) (hn : l.length ≤ 1000000) (hH : 0 < H.length) : gcall KC (geval KC) 101 [.pure (.slice (l.map irow)), .pure (.int .i64 x)] c H = some (.pure (.int .i64 (l.count x : Nat)), H) := by
 refine WPv_eq (call_enter KC needT Tryz.func101 rfl rfl good101 rfl rfl rfl (by simp) hH ?_)
 simp
 have L := fun Q => count_loop (H := [] :: H) l x hn Q (by simp) l.length 0 0 (by omega) (by omega)
 simp at L
 refine L _ ?_
 simp [gleave_free]
def ansE (x : Int) : Int := if inB x (-1) 8 = true then 0 else 2
def wrF (l : List Int) (n : Int) : Int := if (l.length : Int) ≠ n then 3 else firstE ansE l
theorem written_loop (l : List Int) (hn : l.length ≤ 1000000) (Q : GX → GSt → Prop) (hH : 0 < H.length) : ∀ k i : Nat, i + k = l.length →
  (firstE ansE (l.drop i) = 0 → Q (.exit 0) ⟨[(4, gdead)], H, 21⟩) → (firstE ansE (l.drop i) = 2 → Q .ret ⟨[(4, .pure (.int .i64 2))], H, 21⟩) →
  WPL KC needT 97 (lp Tryz.f97 0) [11, 12, 13] [4] Q [(11, .pure (.slice (l.map irow))), (12, .pure (.int .i64 l.length)), (13, .pure (.int .i64 i))] H 21 := by
 intro k
 induction k with
 | zero =>
  intro i hi h1 h2
  rw [drop_nil (by omega)] at h1
  apply WPL_step
  conv => arg 4; whnf
  have : ¬ i < l.length := by omega
  simp [this, hH]
  exact h1 rfl
 | succ k ih =>
  intro i hi h1 h2
  have hia : i < l.length := by omega
  have hw := w64 (x := (i : Int) + 1) (by omega) (by omega)
  rw [drop_cons hia] at h1 h2
  unfold firstE at h1 h2
  have W := fun c (H : Heap) (hH : 0 < H.length) => withinP_ok (c := c) (x := l[i]) (lo := -1) (hi := 8) (H := H) hH
  apply WPL_step
  conv => arg 4; whnf
  by_cases he : inB l[i] (-1) 8 = true
  ·have e : ansE l[i] = 0 := by simp [ansE, he]
   simp only [e, ne_eq, not_true_eq_false, if_false] at h1 h2
   simp [hia, hH, irow, W, he, hw]
   simpa [irow] using ih (i + 1) (by omega) h1 h2
  ·have e : ansE l[i] = 2 := by simp [ansE, he]
   have he' : inB l[i] (-1) 8 = false := by simpa using he
   simp only [e] at h1 h2
   simp [hia, hH, irow, W, he']
   exact h2 (by simp)
theorem written_ok0 (l : List Int) (n : Int) (hn : l.length ≤ 1000000) (hH : 0 < H.length) : gcall0 KC (geval KC) 97 [.pure (.slice (l.map irow)), .pure (.int .i64 n)] c H = some (.pure (.int .i64 (wrF l n)), H) := by
 refine WPv_eq (call_enter0 KC needT Tryz.func97 rfl rfl good97 (by simp) hH ?_)
 unfold wrF
 by_cases h : (l.length : Int) = n
 ·have h2 : ((l.length : Int) != n) = false := by simpa using h
  have L := fun Q => written_loop (H := [] :: H) l hn Q (by simp) l.length 0 (by omega)
  simp only [List.drop_zero] at L
  simp [h2, h]
  subst h
  refine L _ (fun h => ?_) (fun h => ?_)
  ·simp [h, gleave_free]
  ·simp [h, gleave_free]
 ·have h2 : ((l.length : Int) != n) = true := by simpa using h
  simp [h2, h, gleave_free]
theorem written_ok (l : List Int) (n : Int) (hn : l.length ≤ 1000000) (hH : 0 < H.length) : gcall KC (geval KC) 97 [.pure (.slice (l.map irow)), .pure (.int .i64 n)] c H = some (.pure (.int .i64 (wrF l n)), H) :=
 bor_c rfl rfl rfl rfl rfl hH fun H hH => written_ok0 l n hn hH
end
section
variable {c : Nat} {H : Heap}
def lenM (b : Option Blk) : Option Int := match b with | some (.map es) => some es.length | _ => none
@[congr] theorem lenM_cg {b b' : Option Blk} (h : ∀ _ : Unit, b = b') : lenM b = lenM b' := by rw [h ()]
@[simp] theorem lenM_map {es : List (PV × GV)} : lenM (some (.map es)) = some (es.length : Int) := .trans rfl rfl
@[simp] theorem lenD_map {k e : TypeId} {nm : Nm} : lenD (some (.map k e)) H (.map nm) = lenM (H.get nm) := by
 unfold lenD lenM
 rfl
@[simp] theorem kf3 (n : Int) : keyFitsK KC 3 (.int .i64 n) = true := by kernel_rfl
def posL (x : Int) : List Int → Nat
 | [] => 0
 | y :: r => if x = y then 0 else posL x r + 1
def numL : List Int → List Int → List Int
 | [], _ => []
 | x :: r, seen => (posL x seen : Int) :: numL r (if x ∈ seen then seen else seen ++ [x])
def entS : List Int → Nat → List (PV × GV)
 | [], _ => []
 | x :: r, n => (.int .i64 x, .pure (.int .i64 n)) :: entS r (n + 1)
theorem entS_len : ∀ (l : List Int) (n : Nat), (entS l n).length = l.length
 | [], _ => rfl
 | x :: r, n => by simp [entS, entS_len r]
theorem entS_app : ∀ (l : List Int) (x : Int) (n : Nat), entS (l ++ [x]) n = entS l n ++ [(.int .i64 x, .pure (.int .i64 ((n + l.length : Nat) : Int)))]
 | [], x, n => rfl
 | y :: r, x, n => by
  have := entS_app r x (n + 1)
  simp only [List.cons_append, entS, this, List.length_cons]
  have e : n + 1 + r.length = n + (r.length + 1) := by omega
  rw [e]
theorem find_no (x : Int) : ∀ (l : List Int) (n i : Nat), x ∉ l → findEntry (.int .i64 x) (entS l n) i = some none
 | [], _, _, _ => rfl
 | y :: r, n, i, h => by
  simp only [List.mem_cons, not_or] at h
  have e : (x == y) = false := by simpa using h.1
  simp [entS, findEntry, keyEq, e]
  exact find_no x r (n + 1) (i + 1) h.2
theorem find_yes (x : Int) : ∀ (l : List Int) (n i : Nat), x ∈ l → findEntry (.int .i64 x) (entS l n) i = some (some (i + posL x l, .pure (.int .i64 ((n + posL x l : Nat) : Int))))
 | [], _, _, h => by simp at h
 | y :: r, n, i, h => by
  by_cases e : x = y
  ·subst e
   simp [entS, findEntry, keyEq, posL]
  ·have e2 : (x == y) = false := by simpa using e
   have := find_yes x r (n + 1) (i + 1) (by simpa [e] using h)
   simp [entS, findEntry, keyEq, e2, posL, e, this]
   constructor <;> omega
theorem posL_no (x : Int) : ∀ l : List Int, x ∉ l → posL x l = l.length
 | [], _ => rfl
 | y :: r, h => by
  simp only [List.mem_cons, not_or] at h
  simp [posL, h.1, posL_no x r h.2]
theorem posL_le (x : Int) : ∀ l : List Int, posL x l ≤ l.length
 | [] => Nat.le_refl _
 | y :: r => by
  have := posL_le x r
  unfold posL
  split <;> simp <;> omega
theorem posL_lt (x : Int) : ∀ l : List Int, posL x l < l.length ↔ x ∈ l
 | [] => by simp [posL]
 | y :: r => by
  have := posL_lt x r
  unfold posL
  by_cases e : x = y
  ·simp [e]
  ·simp [e, this]
theorem numL_len : ∀ (l seen : List Int), (numL l seen).length = l.length
 | [], _ => rfl
 | x :: r, s => by simp [numL, numL_len r]
def mapF (seen : List Int) : Fr := [(9, .map (entS seen 0))]
theorem number_loop (l : List Int) (hn : l.length ≤ 1000000) (fin : List Int) (Q : GX → GSt → Prop) (h1 : ∀ seen, Q (.exit 0) ⟨[(4, apS (H.length, 32) 1 (fin.map irow))], apF 32 1 (fin.map irow) (mapF seen) :: H, 35⟩) : ∀ (k i : Nat) (seen done : List Int), i + k = l.length → done.length = i → seen.length ≤ i → done ++ numL (l.drop i) seen = fin →
  WPL KC needT 154 (lp Tryz.f154 0) [3, 4, 10, 11, 12] [4] Q [(3, .map (H.length, 9)), (4, apS (H.length, 32) 1 (done.map irow)), (10, .pure (.slice (l.map irow))), (11, .pure (.int .i64 l.length)), (12, .pure (.int .i64 i))] (apF 32 1 (done.map irow) (mapF seen) :: H) 35 := by
 intro k
 induction k with
 | zero =>
  intro i seen done hi hd hs hf
  rw [drop_nil (by omega)] at hf
  simp [numL] at hf
  subst hf
  apply WPL_step
  conv => arg 4; whnf
  have : ¬ i < l.length := by omega
  simp [this]
  exact h1 seen
 | succ k ih =>
  intro i seen done hi hd hs hf
  have hia : i < l.length := by omega
  have hw := w64 (x := (i : Int) + 1) (by omega) (by omega)
  rw [drop_cons hia] at hf
  unfold numL at hf
  have hb : (done.length + 1) * 8 ≤ 1099511627776 := by omega
  have A := fun f0 seen => apK_1 (H := H) (l := H.length) (key := 32) (es := 1) (bytes := 8) (rows := done.map irow) (r := irow (posL l[i] seen : Int)) (fr := mapF seen) (f0 := f0) rfl rfl (by simpa using hb)
  have A2 := fun f0 => apK_1 (H := H) (l := H.length) (key := 32) (es := 1) (bytes := 8) (rows := done.map irow) (r := irow (seen.length : Int)) (fr := mapF (seen ++ [l[i]])) (f0 := f0) rfl rfl (by simpa using hb)
  simp only [irow, mapF] at A A2
  by_cases hm : l[i] ∈ seen
  ·have fy := find_yes l[i] seen 0 0 hm
   rw [if_pos hm] at hf
   have ih' := ih (i + 1) seen (done ++ [(posL l[i] seen : Int)]) (by omega) (by simp [hd]) (by omega) (by simpa using hf)
   apply WPL_step
   conv => arg 4; whnf
   simp [hia, mapF, irow, fy, A, hw]
   simpa [irow, mapF] using ih'
  ·have fn := find_no l[i] seen 0 0 hm
   rw [if_neg hm, posL_no _ _ hm] at hf
   have ih' := ih (i + 1) (seen ++ [l[i]]) (done ++ [(seen.length : Int)]) (by omega) (by simp [hd]) (by simp; omega) (by simpa using hf)
   have ea := entS_app seen l[i] 0
   rw [ea] at A2
   simp at A2
   apply WPL_step
   conv => arg 4; whnf
   simp [hia, mapF, irow, fn, A2, hw, entS_len]
   rw [mapF, ea] at ih'
   simpa [irow, mapF] using ih'
theorem number_ok (l : List Int) (hn : l.length ≤ 1000000) (hH : 0 < H.length) : gcall KC (geval KC) 154 [.pure (.slice (l.map irow))] c H = some (.pure (.slice ((numL l []).map irow)), H) := by
 refine WPv_eq (call_enter KC needT Tryz.func154 rfl rfl good154 rfl rfl rfl (by simp) hH ?_)
 have L := fun Q h1 => number_loop (H := H) l hn (numL l []) Q h1 l.length 0 [] [] (by omega) rfl (by simp) (by simp)
 simp [mapF, entS, apS_nil, apF_nil] at L
 simp
 refine L _ (fun seen => ?_)
 simp
 rw [gleave_free]
 ·rw [WPv_some, cc_apS rfl (by omega)]
 ·simp
theorem A40 {f0 : Fr} {o s : List (List PV)} {r : List PV} (hb : (s.length + 1) * 8 ≤ 1099511627776) : apK H.length 40 (apS (H.length, 40) 1 s) 1 8 [r] (f0 :: apF 44 1 o (apF 40 1 s []) :: H) = some (apS (H.length, 40) 1 (s ++ [r]), f0 :: apF 44 1 o (apF 40 1 (s ++ [r]) []) :: H) := by
 have g0 : Fr.get (apF 44 1 o (apF 40 1 [] [])) 40 = none := by rw [apF_get (by decide)]; rfl
 rw [apK_apS (fun h => by subst h; simp [g0]) (fun h => by simp [apF_self h]) (by simp; omega) hb (by simp)]
 simp
 unfold apF
 simp
 by_cases h : s = []
 ·simp [h]
 ·simp [h, Fr.ins_ins]
theorem seen_loop (l : List Int) (hn : l.length ≤ 1000000) (i : Nat) (hia : i < l.length) (out seen : List Int) (hs : seen.length ≤ i) {f0 : Fr} (Q : GX → GSt → Prop)
  (h1 : Q (.exit 2) ⟨[(0, .pure (.slice (l.map irow))), (3, apS (H.length, 44) 1 (out.map irow)), (4, apS (H.length, 40) 1 (seen.map irow)), (5, .pure (.int .i64 i)), (6, .pure (.int .i64 (posL l[i] seen : Nat)))], f0 :: apF 44 1 (out.map irow) (apF 40 1 (seen.map irow) []) :: H, 46⟩) : ∀ (j k : Nat), k + j = seen.length → posL l[i] seen = k + posL l[i] (seen.drop k) →
  WPL KC needT 113 (lp Tryz.f113 1) [0, 3, 4, 5, 6] [0, 3, 4, 5, 6] Q [(0, .pure (.slice (l.map irow))), (3, apS (H.length, 44) 1 (out.map irow)), (4, apS (H.length, 40) 1 (seen.map irow)), (5, .pure (.int .i64 i)), (6, .pure (.int .i64 k))] (f0 :: apF 44 1 (out.map irow) (apF 40 1 (seen.map irow) []) :: H) 46 := by
 intro j
 induction j with
 | zero =>
  intro k hk hp
  rw [drop_nil (by omega)] at hp
  have e : k = posL l[i] seen := by simpa [posL] using hp.symm
  apply WPL_step
  conv => arg 4; whnf
  have : ¬ k < seen.length := by omega
  simp [this]
  rw [e]
  simpa using h1
 | succ j ih =>
  intro k hk hp
  have hks : k < seen.length := by omega
  have hw := w64 (x := (k : Int) + 1) (by omega) (by omega)
  rw [drop_cons hks] at hp
  simp only [posL] at hp
  have hne : seen.map irow ≠ [] := by simp; exact fun e => by rw [e] at hks; exact absurd hks (Nat.not_lt_zero _)
  have g40 := apF_self (key := 40) (es := 1) (fr := []) hne
  have ia := iaS_apS (nm := (H.length, 40)) (es := 1) (rows := seen.map irow) (i := k) (by simpa using hks)
  apply WPL_step
  conv => arg 4; whnf
  by_cases e : l[i] = seen[k]
  ·rw [if_pos e] at hp
   have e2 : (seen[k] != l[i]) = false := by simp [e]
   simp [hks, ia, g40, irow, hia, e2]
   rw [hp] at h1
   simpa [irow] using h1
  ·rw [if_neg e] at hp
   have e2 : (seen[k] != l[i]) = true := by simp; exact fun h => e h.symm
   have ih' := ih (k + 1) (by omega) (by omega)
   simp [hks, ia, g40, irow, hia, e2, hw]
   simpa [irow] using ih'
theorem of_loop (l : List Int) (hn : l.length ≤ 1000000) (fin : List Int) (Q : GX → GSt → Prop) (h1 : ∀ fr : Fr, Q (.exit 0) ⟨[(3, apS (H.length, 44) 1 (fin.map irow))], apF 44 1 (fin.map irow) fr :: H, 46⟩) : ∀ (k i : Nat) (seen done : List Int), i + k = l.length → done.length = i → seen.length ≤ i → done ++ numL (l.drop i) seen = fin →
  WPL KC needT 113 (lp Tryz.f113 0) [0, 3, 4, 5] [3] Q [(0, .pure (.slice (l.map irow))), (3, apS (H.length, 44) 1 (done.map irow)), (4, apS (H.length, 40) 1 (seen.map irow)), (5, .pure (.int .i64 i))] (apF 44 1 (done.map irow) (apF 40 1 (seen.map irow) []) :: H) 46 := by
 intro k
 induction k with
 | zero =>
  intro i seen done hi hd hs hf
  rw [drop_nil (by omega)] at hf
  simp [numL] at hf
  subst hf
  apply WPL_step
  conv => arg 4; whnf
  have : ¬ i < l.length := by omega
  simp [this]
  exact h1 _
 | succ k ih =>
  intro i seen done hi hd hs hf
  have hia : i < l.length := by omega
  have hw := w64 (x := (i : Int) + 1) (by omega) (by omega)
  rw [drop_cons hia] at hf
  unfold numL at hf
  have hb : (done.length + 1) * 8 ≤ 1099511627776 := by omega
  have hb2 : (seen.length + 1) * 8 ≤ 1099511627776 := by omega
  have A4 := fun f0 => A40 (H := H) (f0 := f0) (o := done.map irow) (s := seen.map irow) (r := irow l[i]) (by simpa using hb2)
  have A := fun f0 (x : Int) (s : List (List PV)) => apK_1 (H := H) (l := H.length) (key := 44) (es := 1) (bytes := 8) (rows := done.map irow) (r := irow x) (fr := apF 40 1 s []) (f0 := f0) rfl (by rw [apF_get (by decide)]; rfl) (by simpa using hb)
  simp only [irow] at A A4
  have L := fun (f0 : Fr) Q h1 => seen_loop (H := H) (f0 := f0) l hn i hia done seen hs Q h1 seen.length 0 (by omega) (by simp)
  simp at L
  have pl := posL_lt l[i] seen
  have ple := posL_le l[i] seen
  apply WPL_step
  conv => arg 4; whnf
  simp [hia]
  refine L _ _ ?_
  by_cases hm : l[i] ∈ seen
  ·rw [if_pos hm] at hf
   have e : ¬ posL l[i] seen = seen.length := by have := pl.2 hm; omega
   have e2 : ((posL l[i] seen : Int) == seen.length) = false := by simp; omega
   have ih' := ih (i + 1) seen (done ++ [(posL l[i] seen : Int)]) (by omega) (by simp [hd]) (by omega) (by simpa using hf)
   simp [e2, e, A, irow, hw, hia]
   simpa [irow] using ih'
  ·have pe := posL_no _ _ hm
   rw [if_neg hm, pe] at hf
   rw [pe]
   have ih' := ih (i + 1) (seen ++ [l[i]]) (done ++ [(seen.length : Int)]) (by omega) (by simp [hd]) (by simp; omega) (by simpa using hf)
   simp [A4, A, irow, hw, hia]
   simpa [irow] using ih'
theorem of_ok (l : List Int) (hn : l.length ≤ 1000000) (hH : 0 < H.length) : gcall KC (geval KC) 113 [.pure (.slice (l.map irow))] c H = some (.pure (.slice ((numL l []).map irow)), H) := by
 refine WPv_eq (call_enter KC needT Tryz.func113 rfl rfl good113 rfl rfl rfl (by simp) hH ?_)
 have L := fun Q h1 => of_loop (H := H) l hn (numL l []) Q h1 l.length 0 [] [] (by omega) rfl (by simp) (by simp)
 simp [apS_nil, apF_nil] at L
 simp
 refine L _ (fun fr => ?_)
 simp
 rw [gleave_free]
 ·rw [WPv_some, cc_apS rfl (by omega)]
 ·simp
end
section
variable {c : Nat} {H : Heap}
def ofT (l : List Int) : List PV := if l.length = 0 then [.slice [], .int .i64 6] else if 9 < l.length then [.slice [], .int .i64 8] else [.slice ((numL l []).map irow), .int .i64 0]
theorem Of_ok (l : List Int) (hn : l.length ≤ 1000000) (hH : 0 < H.length) : gcall KC (geval KC) 132 [.pure (.slice (l.map irow))] c H = some (.pure (.tuple (ofT l)), H) := by
 refine WPv_eq (call_enter KC needT Tryz.func132 rfl rfl good132 rfl rfl rfl (by simp) hH ?_)
 have N := fun c (H : Heap) (hH : 0 < H.length) => number_ok (c := c) (H := H) l hn hH
 unfold ofT
 by_cases h : l.length = 0
 ·have h3 : l = [] := List.length_eq_zero_iff.1 h
  subst h3
  simp [gleave_free]
 ·have h2 : ((l.length : Int) == 0) = false := by simp; exact fun e => h (by rw [e]; rfl)
  have h0 : ¬ l = [] := fun e => h (by rw [e]; rfl)
  by_cases h3 : 9 < l.length
  ·have h4 : (9 : Int) < l.length := by omega
   simp [h, h0, h2, h3, h4, gleave_free]
  ·have h4 : ¬ (9 : Int) < l.length := by omega
   simp [h, h0, h2, h3, h4, N, gleave_free]
theorem OfR_ok (l : List Int) (hn : l.length ≤ 1000000) (hH : 0 < H.length) : gcall KC (geval KC) 80 [.pure (.slice (l.map irow))] c H = some (.pure (.tuple (ofT l)), H) := by
 refine WPv_eq (call_enter KC needT Tryz.func80 rfl rfl good80 rfl rfl rfl (by simp) hH ?_)
 have N := fun c (H : Heap) (hH : 0 < H.length) => of_ok (c := c) (H := H) l hn hH
 unfold ofT
 by_cases h : l.length = 0
 ·have h3 : l = [] := List.length_eq_zero_iff.1 h
  subst h3
  simp [gleave_free]
 ·have h2 : ((l.length : Int) == 0) = false := by simp; exact fun e => h (by rw [e]; rfl)
  have h0 : ¬ l = [] := fun e => h (by rw [e]; rfl)
  by_cases h3 : 9 < l.length
  ·have h4 : (9 : Int) < l.length := by omega
   simp [h, h0, h2, h3, h4, gleave_free]
  ·have h4 : ¬ (9 : Int) < l.length := by omega
   simp [h, h0, h2, h3, h4, N, gleave_free]
def hasB (a : List Int) (i : Nat) : Bool := decide (0 ≤ a.getD i 0)
def eqB (l : List Int) (i k : Nat) : Bool := l.getD i 0 == l.getD k 0
def prB (t a : List Int) (i k : Nat) : Bool := eqB a i k == eqB t i k
def pairB (t a : List Int) (i k : Nat) : Bool := hasB a i && hasB a k && prB t a i k
theorem has_ok (t a : List Int) (i : Nat) (h : i < a.length) (hH : 0 < H.length) : gcall KC (geval KC) 130 [.pure (.agg [.slice (t.map irow), .slice (a.map irow)]), .pure (.int .i64 i)] c H = some (.pure (.bool (hasB a i)), H) := by
 refine WPv_eq (call_enter KC needT Tryz.func130 rfl rfl good130 rfl rfl rfl (by simp) hH ?_)
 have e : hasB a i = decide (0 ≤ a[i]) := by unfold hasB; rw [getD_lt h]
 simp [h, irow, gleave_free, e]
theorem sright_ok (t a : List Int) (i k : Nat) (h : i < a.length) (h2 : k < a.length) (h3 : i < t.length) (h4 : k < t.length) (hH : 0 < H.length) : gcall KC (geval KC) 131 [.pure (.agg [.slice (t.map irow), .slice (a.map irow)]), .pure (.int .i64 i), .pure (.int .i64 k)] c H = some (.pure (.bool (prB t a i k)), H) := by
 refine WPv_eq (call_enter KC needT Tryz.func131 rfl rfl good131 rfl rfl rfl (by simp) hH ?_)
 have e : prB t a i k = ((a[i] == a[k]) == (t[i] == t[k])) := by unfold prB eqB; rw [getD_lt h, getD_lt h2, getD_lt h3, getD_lt h4]
 simp [h, h2, h3, h4, irow, gleave_free, e]
def badB (t a : List Int) (i k : Nat) : Bool := hasB a k && !pairB t a i k
def anyB (p : Nat → Bool) : Nat → Nat → Bool
 | 0, _ => false
 | k + 1, i => p i || anyB p k (i + 1)
theorem anyB_iff (p : Nat → Bool) : ∀ (k i : Nat), anyB p k i = true ↔ ∃ j, i ≤ j ∧ j < i + k ∧ p j = true
 | 0, i => by simp [anyB]; omega
 | k + 1, i => by
  simp only [anyB, Bool.or_eq_true, anyB_iff p k (i + 1)]
  constructor
  ·rintro (h | ⟨j, a, b, d⟩)
   ·exact ⟨i, by omega, by omega, h⟩
   ·exact ⟨j, by omega, by omega, d⟩
  ·rintro ⟨j, a, b, d⟩
   by_cases e : j = i
   ·subst e; exact .inl d
   ·exact .inr ⟨j, by omega, by omega, d⟩
def rightB (t a : List Int) (i : Nat) : Bool := if anyB (badB t a i) i 0 = true then false else hasB a i
def nearB (t a : List Int) (i k : Nat) : Bool := !(k == i) && (eqB t k i || (hasB a i && eqB a i k))
def heardB (t a : List Int) (i : Nat) : Bool := if anyB (nearB t a i) t.length 0 = true then false else hasB a i
end
section
variable {c : Nat} {H : Heap}
def chkL : List Int → Int → Int
 | [], _ => 0
 | x :: r, m => if x < 0 ∨ 9 ≤ x then 2 else if m < x then 11 else chkL r (if x = m then m + 1 else m)
def chkP (l : List Int) : Int := if l.length = 0 then 6 else if 9 < l.length then 8 else chkL l 0
theorem chk_loop (l : List Int) (hn : l.length ≤ 9) (Q : GX → GSt → Prop) (hH : 0 < H.length) : ∀ (k i : Nat) (m : Int), i + k = l.length → 0 ≤ m → m ≤ i →
  (chkL (l.drop i) m = 0 → Q (.exit 1) ⟨[(2, gdead)], H, 38⟩) → (chkL (l.drop i) m ≠ 0 → Q .ret ⟨[(2, .pure (.int .i64 (chkL (l.drop i) m)))], H, 38⟩) →
  WPL KC needT 82 (lp Tryz.f82 0) [3, 14, 15, 16] [2] Q [(3, .pure (.int .i64 m)), (14, .pure (.slice (l.map irow))), (15, .pure (.int .i64 l.length)), (16, .pure (.int .i64 i))] H 38 := by
 intro k
 induction k with
 | zero =>
  intro i m hi _ _ h1 h2
  rw [drop_nil (by omega)] at h1
  apply WPL_step
  conv => arg 4; whnf
  have : ¬ i < l.length := by omega
  simp [this, hH]
  exact h1 rfl
 | succ k ih =>
  intro i m hi hm0 hmi h1 h2
  have hia : i < l.length := by omega
  have hw := w64 (x := (i : Int) + 1) (by omega) (by omega)
  have hw2 := w64 (x := m + 1) (by omega) (by omega)
  rw [drop_cons hia] at h1 h2
  unfold chkL at h1 h2
  apply WPL_step
  conv => arg 4; whnf
  by_cases a : l[i] < 0
  ·rw [if_pos (.inl a)] at h2
   simp [hia, hH, irow, a]
   exact h2 (by decide)
  ·by_cases b : 9 ≤ l[i]
   ·rw [if_pos (.inr b)] at h2
    simp [hia, hH, irow, a, b]
    exact h2 (by decide)
   ·rw [if_neg (by omega)] at h1 h2
    by_cases d : m < l[i]
    ·rw [if_pos d] at h2
     simp [hia, hH, irow, a, b, d]
     exact h2 (by decide)
    ·rw [if_neg d] at h1 h2
     by_cases e : l[i] = m
     ·rw [if_pos e] at h1 h2
      have e2 : (l[i] == m) = true := by simpa using e
      rw [e] at a b
      simp [hia, hH, irow, a, b, d, e, e2, hw, hw2]
      simpa [irow] using ih (i + 1) (m + 1) (by omega) (by omega) (by omega) h1 h2
     ·rw [if_neg e] at h1 h2
      have e2 : (l[i] == m) = false := by simpa using e
      simp [hia, hH, irow, a, b, d, e, e2, hw]
      simpa [irow] using ih (i + 1) m (by omega) hm0 (by omega) h1 h2
theorem chk_ok (l : List Int) (hn : l.length ≤ 1000000) (hH : 0 < H.length) : gcall KC (geval KC) 82 [.pure (.slice (l.map irow))] c H = some (.pure (.int .i64 (chkP l)), H) := by
 refine WPv_eq (call_enter KC needT Tryz.func82 rfl rfl good82 rfl rfl rfl (by simp) hH ?_)
 unfold chkP
 by_cases h : l.length = 0
 ·have h2 : ((l.length : Int) == 0) = true := by simp [h]
  have h3 : l = [] := List.length_eq_zero_iff.1 h
  subst h3
  simp [gleave_free]
 ·have h2 : ((l.length : Int) == 0) = false := by simp; exact fun e => h (by rw [e]; rfl)
  have h0 : ¬ l = [] := fun e => h (by rw [e]; rfl)
  by_cases h3 : 9 < l.length
  ·have h4 : (9 : Int) < l.length := by omega
   simp [h, h0, h2, h3, h4, gleave_free]
  ·have h4 : ¬ (9 : Int) < l.length := by omega
   have L := fun Q => chk_loop (H := [] :: H) l (by omega) Q (by simp) l.length 0 0 (by omega) (by omega) (by omega)
   simp at L
   simp [h, h0, h2, h3, h4]
   refine L _ (fun h => ?_) (fun h => ?_)
   ·simp [h, gleave_free]
   ·simp [gleave_free]
def Scoring.five (s : Scoring) : List Int := [s.packet, s.pair, s.whole, s.new, s.loss]
def keyE (l : List Int) : Nat → Nat → Int
 | 0, _ => 0
 | k + 1, i => if inB (l.getD i 0) 1 6 = false then 4 else if (l.take i).contains (l.getD i 0) = true then 9 else keyE l k (i + 1)
def okFive (l : List Int) : Bool := l.all fun x => inB x 0 1000
def chkS (s : Scoring) : Int := if okFive s.five = false then 2 else if 6 < s.keys.length then 8 else keyE s.keys s.keys.length 0
def sbox (s : Scoring) : Blk := .box [.pure (.int .i64 s.packet), .pure (.int .i64 s.pair), .pure (.int .i64 s.whole), .pure (.int .i64 s.new), .pure (.int .i64 s.loss), .pure (.slice (s.keys.map irow))]
theorem five_loop (s : Scoring) (l : List Int) (hl : l.length = 5) (Q : GX → GSt → Prop) : ∀ k i : Nat, i + k = 5 →
  (okFive (l.drop i) = true → Q (.exit 0) ⟨[(1, .bptr (H.length, 1) 0), (2, gdead)], [(1, sbox s)] :: H, 49⟩) → (okFive (l.drop i) = false → Q .ret ⟨[(1, .bptr (H.length, 1) 0), (2, .pure (.int .i64 2))], [(1, sbox s)] :: H, 49⟩) →
  WPL KC needT 81 (lp Tryz.f81 0) [1, 17, 18] [1, 2] Q [(1, .bptr (H.length, 1) 0), (17, .pure (.agg (l.map (PV.int .i64)))), (18, .pure (.int .i64 i))] ([(1, sbox s)] :: H) 49 := by
 intro k
 induction k with
 | zero =>
  intro i hi h1 h2
  rw [drop_nil (by omega)] at h1
  apply WPL_step
  conv => arg 4; whnf
  have : ¬ (i : Int) < 5 := by omega
  simp [this]
  exact h1 rfl
 | succ k ih =>
  intro i hi h1 h2
  have hia : i < l.length := by omega
  have hi5 : (i : Int) < 5 := by omega
  have hi5' : ¬ (5 : Int) ≤ i := by omega
  have hi6 : i + 1 ≤ l.length := by omega
  have hw := w64 (x := (i : Int) + 1) (by omega) (by omega)
  rw [drop_cons hia] at h1 h2
  unfold okFive at h1 h2
  rw [List.all_cons] at h1 h2
  have W := fun c (H : Heap) (hH : 0 < H.length) => withinP_ok (c := c) (x := l[i]) (lo := 0) (hi := 1000) (H := H) hH
  apply WPL_step
  conv => arg 4; whnf
  by_cases he : inB l[i] 0 1000 = true
  ·simp only [he, Bool.true_and] at h1 h2
   simp [hia, hi5, hi5', hi6, irow, W, he, hw]
   simpa [irow] using ih (i + 1) (by omega) h1 h2
  ·have he' : inB l[i] 0 1000 = false := by simpa using he
   simp only [he', Bool.false_and] at h2
   simp [hia, hi5, hi5', hi6, irow, W, he']
   exact h2 trivial
theorem keys_loop (s : Scoring) (hn : s.keys.length ≤ 6) (Q : GX → GSt → Prop) : ∀ k i : Nat, i + k = s.keys.length →
  (keyE s.keys k i = 0 → Q (.exit 2) ⟨[(2, gdead)], [(1, sbox s)] :: H, 49⟩) → (keyE s.keys k i ≠ 0 → Q .ret ⟨[(2, .pure (.int .i64 (keyE s.keys k i)))], [(1, sbox s)] :: H, 49⟩) →
  WPL KC needT 81 (lp Tryz.f81 1) [1, 30, 31, 32] [2] Q [(1, .bptr (H.length, 1) 0), (30, .pure (.slice (s.keys.map irow))), (31, .pure (.int .i64 s.keys.length)), (32, .pure (.int .i64 i))] ([(1, sbox s)] :: H) 49 := by
 intro k
 induction k with
 | zero =>
  intro i hi h1 h2
  apply WPL_step
  conv => arg 4; whnf
  have : ¬ i < s.keys.length := by omega
  simp [this]
  exact h1 rfl
 | succ k ih =>
  intro i hi h1 h2
  have hia : i < s.keys.length := by omega
  have hw := w64 (x := (i : Int) + 1) (by omega) (by omega)
  unfold keyE at h1 h2
  rw [getD_lt hia] at h1 h2
  have W := fun c (H : Heap) (hH : 0 < H.length) => withinP_ok (c := c) (x := s.keys[i]) (lo := 1) (hi := 6) (H := H) hH
  have Ct := fun c (H : Heap) (hH : 0 < H.length) => contains_ok (c := c) (s.keys.take i) s.keys[i] (H := H) (by simp; omega) hH
  rw [List.map_take] at Ct
  have hr : ∀ x : Int, (irow x).length = 1 := fun x => rfl
  have hle : i ≤ s.keys.length := by omega
  apply WPL_step
  conv => arg 4; whnf
  by_cases he : inB s.keys[i] 1 6 = true
  ·simp only [he, Bool.true_eq_false, if_false] at h1 h2
   by_cases hd : (s.keys.take i).contains s.keys[i] = true
   ·rw [if_pos hd] at h2
    simp [hia, sbox, W, he, Ct, hd, hr, hle]
    have e : s.keys[i] ∈ s.keys.take i := by simpa using hd
    simp [irow, W, he, hr, hle, Ct, hd, e]
    simpa [sbox] using h2 (by decide)
   ·rw [if_neg hd] at h1 h2
    have e : ¬ s.keys[i] ∈ s.keys.take i := by simpa using hd
    have ih' := ih (i + 1) (by omega) h1 h2
    simp [hia, sbox, W, he, Ct, hd, hr, hle, irow, e, hw]
    simpa [irow, sbox] using ih'
  ·have he' : inB s.keys[i] 1 6 = false := by simpa using he
   simp only [he', if_true] at h2
   simp [hia, irow, W, he', sbox]
   simpa [sbox] using h2 (by decide)
theorem rowS (s : Scoring) : s.row = [.int .i64 s.packet, .int .i64 s.pair, .int .i64 s.whole, .int .i64 s.new, .int .i64 s.loss, .slice (s.keys.map irow)] := rfl
theorem chkS_ok (s : Scoring) (hn : s.keys.length ≤ 1000000) (hH : 0 < H.length) : gcall KC (geval KC) 81 [.pure (.agg s.row)] c H = some (.pure (.int .i64 (chkS s)), H) := by
 refine WPv_eq (call_enter KC needT Tryz.func81 rfl rfl good81 rfl rfl rfl (by simp) hH ?_)
 rw [rowS]
 simp
 have L1 := fun Q => five_loop (H := H) s s.five rfl Q 5 0 (by omega)
 simp [Scoring.five, sbox] at L1
 unfold chkS Scoring.five
 refine L1 _ (fun h => ?_) (fun h => ?_)
 ·rw [h]
  by_cases h6 : 6 < s.keys.length
  ·have h6' : (6 : Int) < s.keys.length := by omega
   simp [h6, h6', gleave_free]
  ·have h6' : ¬ (6 : Int) < s.keys.length := by omega
   have L2 := fun Q => keys_loop (H := H) s (by omega) Q s.keys.length 0 (by omega)
   simp [sbox] at L2
   simp [h6, h6']
   refine L2 _ (fun h => ?_) (fun h => ?_)
   ·simp [h, gleave_free]
   ·simp [gleave_free]
 ·rw [h]
  simp [gleave_free]
end
section
variable {c : Nat} {H : Heap}
def maxL : List Int → Int → Int
 | [], m => m
 | x :: r, m => maxL r (if m < x then x else m)
theorem max_loop (l : List Int) (hn : l.length ≤ 1000000) (Q : GX → GSt → Prop) (hH : 0 < H.length) : ∀ (k i : Nat) (m : Int), i + k = l.length →
  Q (.exit 0) ⟨[(3, .pure (.int .i64 (maxL (l.drop i) m)))], H, 25⟩ →
  WPL KC needT 157 (lp Tryz.f157 0) [0, 3, 4] [3] Q [(0, .pure (.slice (l.map irow))), (3, .pure (.int .i64 m)), (4, .pure (.int .i64 i))] H 25 := by
 intro k
 induction k with
 | zero =>
  intro i m hi h1
  rw [drop_nil (by omega)] at h1
  apply WPL_step
  conv => arg 4; whnf
  have : ¬ i < l.length := by omega
  simp [this, hH]
  exact h1
 | succ k ih =>
  intro i m hi h1
  have hia : i < l.length := by omega
  have hw := w64 (x := (i : Int) + 1) (by omega) (by omega)
  rw [drop_cons hia] at h1
  simp only [maxL] at h1
  apply WPL_step
  conv => arg 4; whnf
  simp [hia, hH, irow, hw]
  simpa [irow] using ih (i + 1) _ (by omega) h1
def maxF (l : List Int) : Int := maxL (l.drop 1) (l.getD 0 0)
theorem max_ok (l : List Int) (h0 : l ≠ []) (hn : l.length ≤ 1000000) (hH : 0 < H.length) : gcall KC (geval KC) 157 [.pure (.slice (l.map irow))] c H = some (.pure (.int .i64 (maxF l)), H) := by
 refine bor_c rfl rfl rfl rfl rfl hH fun H hH => ?_
 refine WPv_eq (call_enter0 KC needT Tryz.func157 rfl rfl good157 (by simp) hH ?_)
 have hp : 0 < l.length := List.length_pos_iff.2 h0
 have e : ¬ (l.length : Int) < 1 := by omega
 have L := fun Q => max_loop (H := [] :: H) l hn Q (by simp) (l.length - 1) 1 l[0] (by omega)
 simp at L
 unfold maxF
 rw [getD_lt hp]
 have hp' : l.length ≠ 0 := by omega
 simp [e, h0, hp, irow]
 refine L _ ?_
 simp [gleave_free]
def blkF (l : List Int) : Int := maxL (l.map (· + 1)) 0
theorem maxL_succ : ∀ (l : List Int) (m : Int), maxL (l.map (· + 1)) (m + 1) = maxL l m + 1
 | [], m => rfl
 | x :: r, m => by
  simp only [List.map_cons, maxL]
  by_cases h : m < x
  ·rw [if_pos (by omega), if_pos h, maxL_succ r x]
  ·rw [if_neg (by omega), if_neg h, maxL_succ r m]
theorem maxF_blk {l : List Int} (h0 : l ≠ []) (hp : 0 ≤ l.getD 0 0) : maxF l + 1 = blkF l := by
 cases l with
 | nil => exact absurd rfl h0
 | cons x r =>
  have hx : 0 ≤ x := by simpa using hp
  unfold maxF blkF
  show maxL r x + 1 = maxL (r.map (· + 1)) (if 0 < x + 1 then x + 1 else 0)
  rw [if_pos (by omega), maxL_succ]
theorem maxL_ge : ∀ (l : List Int) (m : Int), m ≤ maxL l m ∧ ∀ x ∈ l, x ≤ maxL l m
 | [], m => ⟨Int.le_refl _, fun x h => absurd h List.not_mem_nil⟩
 | y :: r, m => by
  obtain ⟨a, b⟩ := maxL_ge r (if m < y then y else m)
  simp only [maxL]
  refine ⟨?_, fun x hx => ?_⟩
  ·by_cases h : m < y
   ·rw [if_pos h] at a ⊢; omega
   ·rw [if_neg h] at a ⊢; omega
  ·rcases List.mem_cons.1 hx with rfl | h
   ·by_cases h : m < x
    ·rw [if_pos h] at a ⊢; omega
    ·rw [if_neg h] at a ⊢; omega
   ·exact b x h
theorem maxL_mem : ∀ (l : List Int) (m : Int), maxL l m = m ∨ maxL l m ∈ l
 | [], m => .inl rfl
 | y :: r, m => by
  simp only [maxL]
  rcases maxL_mem r (if m < y then y else m) with h | h
  ·rw [h]
   split
   ·exact .inr (List.mem_cons_self ..)
   ·exact .inl rfl
  ·exact .inr (List.mem_cons_of_mem _ h)
theorem blocks_ok (l : List Int) (h0 : l ≠ []) (hn : l.length ≤ 1000000) (hb : ∀ x ∈ l, 0 ≤ x ∧ x ≤ 1000000) (hH : 0 < H.length) : gcall KC (geval KC) 156 [.pure (.slice (l.map irow))] c H = some (.pure (.int .i64 (blkF l)), H) := by
 refine WPv_eq (call_enter KC needT Tryz.func156 rfl rfl good156 rfl rfl rfl (by simp) hH ?_)
 have hp : 0 < l.length := List.length_pos_iff.2 h0
 have M := fun c (H : Heap) (hH : 0 < H.length) => max_ok (c := c) (H := H) l h0 hn hH
 have e := maxF_blk h0 (by rw [getD_lt hp]; exact (hb _ (List.getElem_mem hp)).1)
 have r : 0 ≤ maxF l ∧ maxF l ≤ 1000000 := by
  unfold maxF
  have g0 : l.getD 0 0 ∈ l := by rw [getD_lt hp]; exact List.getElem_mem hp
  rcases maxL_mem (l.drop 1) (l.getD 0 0) with h | h
  ·rw [h]; exact hb _ g0
  ·exact hb _ (List.mem_of_mem_drop h)
 have hw := w64 (x := maxF l + 1) (by omega) (by omega)
 rw [e] at hw
 simp [M, hw, e, gleave_free]
def bothE (a b : List Int) : Int := if chkP a ≠ 0 then chkP a else if chkP b ≠ 0 then chkP b else if (a.length : Int) ≠ b.length then 12 else 0
theorem both_ok (a b : List Int) (ha : a.length ≤ 1000000) (hb : b.length ≤ 1000000) (hH : 0 < H.length) : gcall KC (geval KC) 155 [.pure (.slice (a.map irow)), .pure (.slice (b.map irow))] c H = some (.pure (.int .i64 (bothE a b)), H) := by
 refine WPv_eq (call_enter KC needT Tryz.func155 rfl rfl good155 rfl rfl rfl (by simp) hH ?_)
 have A := fun c (H : Heap) (hH : 0 < H.length) => chk_ok (c := c) (H := H) a ha hH
 have B := fun c (H : Heap) (hH : 0 < H.length) => chk_ok (c := c) (H := H) b hb hH
 unfold bothE
 by_cases h1 : chkP a = 0
 ·by_cases h2 : chkP b = 0
  ·by_cases h3 : (a.length : Int) = b.length
   ·have e3 : ((a.length : Int) != b.length) = false := by simpa using h3
    simp [A, B, h1, h2, h3, e3, gleave_free]
   ·have e3 : ((a.length : Int) != b.length) = true := by simpa using h3
    simp [A, B, h1, h2, h3, e3, gleave_free]
  ·have e2 : (chkP b != 0) = true := by simpa using h2
   simp [A, B, h1, h2, e2, gleave_free]
 ·have e1 : (chkP a != 0) = true := by simpa using h1
  simp [A, B, h1, e1, gleave_free]
def comL (x y : Int) : List Int → List Int → Nat
 | p :: a, q :: b => (if p = x ∧ q = y then 1 else 0) + comL x y a b
 | _, _ => 0
theorem comL_le (x y : Int) : ∀ a b : List Int, comL x y a b ≤ a.length
 | [], _ => Nat.zero_le _
 | _ :: _, [] => Nat.zero_le _
 | p :: a, q :: b => by
  have := comL_le x y a b
  simp only [comL, List.length_cons]
  split <;> omega
end
def stepY (com : Nat → Nat) (rec : List Bool → Nat) (T : List Bool) : Nat → Nat → Nat → Nat
 | 0, _, best => best
 | j + 1, y, best => stepY com rec T j (y + 1) (if 0 < com y ∧ T.getD y false = false then max best (com y + rec (T.set y true)) else best)
def stG (com : Nat → Nat → Nat) (B : Nat) : Nat → List Bool → Nat
 | 0, _ => 0
 | k + 1, T => stepY (com (B - (k + 1))) (stG com B k) T T.length 0 (stG com B k T)
theorem stepY_le {com : Nat → Nat} {rec : List Bool → Nat} {T : List Bool} {m : Nat} (h : ∀ y, y < T.length → com y + rec (T.set y true) ≤ m) : ∀ j y best, y + j = T.length → best ≤ m → stepY com rec T j y best ≤ m
 | 0, _, _, _, hb => hb
 | j + 1, y, best, hy, hb => by
  simp only [stepY]
  have := h y (by omega)
  refine stepY_le h j (y + 1) _ (by omega) ?_
  split <;> omega
theorem stG_le {com : Nat → Nat → Nat} {B n : Nat} (h : ∀ x y, com x y ≤ n) : ∀ k T, stG com B k T ≤ k * n
 | 0, _ => Nat.zero_le _
 | k + 1, T => by
  simp only [stG]
  have e : (k + 1) * n = n + k * n := by rw [Nat.succ_mul]; omega
  refine stepY_le (fun y _ => ?_) _ _ _ (by omega) ?_
  ·have := stG_le (B := B) h k (T.set y true)
   have := h (B - (k + 1)) y
   omega
  ·have := stG_le (B := B) h k T
   omega
def movV (a b : List Int) : Int := (a.length : Int) - (stG (fun x y => comL x y a b) (blkF a).toNat (blkF a).toNat (List.replicate (blkF b).toNat false) : Nat)
def movT (a b : List Int) : List PV := if bothE a b ≠ 0 then [.int .i64 0, .int .i64 (bothE a b)] else [.int .i64 (movV a b), .int .i64 0]
def cntB (p : Nat → Bool) : Nat → Nat
 | 0 => 0
 | n + 1 => cntB p n + if p n = true then 1 else 0
theorem cntB_le (p : Nat → Bool) : ∀ n, cntB p n ≤ n
 | 0 => Nat.le_refl _
 | n + 1 => by
  have := cntB_le p n
  simp only [cntB]
  split <;> omega
theorem anyB_snoc (p : Nat → Bool) : ∀ k i, anyB p (k + 1) i = (anyB p k i || p (i + k))
 | 0, i => by simp [anyB]
 | k + 1, i => by
  have := anyB_snoc p k (i + 1)
  rw [anyB, this, anyB, Bool.or_assoc]
  have e : i + 1 + k = i + (k + 1) := by omega
  rw [e]
theorem rightB_eq (t a : List Int) (i : Nat) : rightB t a i = (hasB a i && !anyB (badB t a i) i 0) := by
 unfold rightB
 cases anyB (badB t a i) i 0 <;> simp
def pairN (t a : List Int) : Nat → Nat
 | 0 => 0
 | n + 1 => pairN t a n + cntB (pairB t a n) n
def allR (t a : List Int) : Nat → Bool
 | 0 => true
 | n + 1 => allR t a n && rightB t a n
def stN (t a : List Int) : Nat → Nat
 | 0 => 0
 | n + 1 => if allR t a (n + 1) = true then stN t a n + 1 else stN t a n
theorem stN_le (t a : List Int) : ∀ n, stN t a n ≤ n
 | 0 => Nat.le_refl _
 | n + 1 => by
  have := stN_le t a n
  simp only [stN]
  split <;> omega
theorem sq_step : ∀ n : Nat, (n + 1) * (n + 1 - 1) = n * (n - 1) + 2 * n
 | 0 => rfl
 | m + 1 => by
  show (m + 1 + 1) * (m + 1) = (m + 1) * m + 2 * (m + 1)
  rw [Nat.mul_comm (m + 1) m, Nat.add_mul, Nat.one_mul, Nat.add_mul, Nat.one_mul, Nat.mul_add, Nat.mul_one]
  omega
theorem pairN_le (t a : List Int) : ∀ n, 2 * pairN t a n ≤ n * (n - 1)
 | 0 => Nat.zero_le _
 | n + 1 => by
  have h1 := pairN_le t a n
  have h2 := cntB_le (pairB t a n) n
  simp only [pairN]
  have e := sq_step n
  omega
theorem count_one {l : List Int} {i : Nat} (h : i < l.length) : l.count l[i] = 1 ↔ ∀ k (hk : k < l.length), k ≠ i → l[k] ≠ l[i] := by
 have e : l = l.take i ++ l[i] :: l.drop (i + 1) := by rw [← drop_cons h, List.take_append_drop]
 have hc : l.count l[i] = (l.take i).count l[i] + ((l.drop (i + 1)).count l[i] + 1) := by
  have e' := congrArg (List.count l[i]) e
  rw [List.count_append, List.count_cons] at e'
  simpa using e'
 rw [hc]
 constructor
 ·intro h1 k hk hne he
  have c1 : (l.take i).count l[i] = 0 := by omega
  have c2 : (l.drop (i + 1)).count l[i] = 0 := by omega
  rw [List.count_eq_zero] at c1 c2
  by_cases hlt : k < i
  ·exact c1 (List.mem_take_iff_getElem.2 ⟨k, by omega, he⟩)
  ·exact c2 (by
    rw [List.mem_iff_getElem]
    exact ⟨k - (i + 1), by simp; omega, by rw [List.getElem_drop, ← he]; congr 1; omega⟩)
 ·intro h1
  have c1 : (l.take i).count l[i] = 0 := by
   rw [List.count_eq_zero]
   intro hm
   obtain ⟨k, hk, he⟩ := List.mem_take_iff_getElem.1 hm
   exact h1 k (by omega) (by omega) he
  have c2 : (l.drop (i + 1)).count l[i] = 0 := by
   rw [List.count_eq_zero]
   intro hm
   obtain ⟨k, hk, he⟩ := List.mem_iff_getElem.1 hm
   rw [List.getElem_drop] at he
   simp at hk
   exact h1 (i + 1 + k) (by omega) (by omega) he
  omega
theorem heardB_eq {t a : List Int} (hl : a.length = t.length) {i : Nat} (h : i < t.length) : heardB t a i = (hasB a i && (decide (t.count (t.getD i 0) = 1) && decide (a.count (a.getD i 0) = 1))) := by
 have ha : i < a.length := by omega
 rw [getD_lt h, getD_lt ha]
 unfold heardB
 cases hh : hasB a i with
 | false => simp
 | true =>
  have e1 := count_one h
  have e2 := count_one ha
  have key : anyB (nearB t a i) t.length 0 = true ↔ ¬ (t.count t[i] = 1 ∧ a.count a[i] = 1) := by
   rw [anyB_iff, e1, e2]
   constructor
   ·rintro ⟨k, _, hk, hn⟩ ⟨g1, g2⟩
    have hk' : k < t.length := by omega
    have hka : k < a.length := by omega
    unfold nearB at hn
    rw [hh] at hn
    simp only [Bool.and_eq_true, Bool.or_eq_true, Bool.true_and] at hn
    have hki : k ≠ i := by simpa using hn.1
    rcases hn.2 with h5 | h5
    ·unfold eqB at h5
     rw [getD_lt hk', getD_lt h] at h5
     exact g1 k hk' hki (by simpa using h5)
    ·unfold eqB at h5
     rw [getD_lt ha, getD_lt hka] at h5
     exact g2 k hka hki (by simpa using (beq_iff_eq.1 h5).symm)
   ·intro hn
    by_cases g1 : ∀ k (hk : k < t.length), k ≠ i → t[k] ≠ t[i]
    ·have g2 : ¬ ∀ k (hk : k < a.length), k ≠ i → a[k] ≠ a[i] := fun g2 => hn ⟨g1, g2⟩
     simp only [Classical.not_forall] at g2
     obtain ⟨k, hk, hki, he⟩ := g2
     have he : a[k] = a[i] := Classical.not_not.1 he
     refine ⟨k, by omega, by omega, ?_⟩
     unfold nearB eqB
     rw [hh, getD_lt ha, getD_lt hk, he]
     simp [hki]
    ·simp only [Classical.not_forall] at g1
     obtain ⟨k, hk, hki, he⟩ := g1
     have he : t[k] = t[i] := Classical.not_not.1 he
     refine ⟨k, by omega, by omega, ?_⟩
     unfold nearB eqB
     rw [getD_lt hk, getD_lt h, he]
     simp [hki]
  by_cases hc : t.count t[i] = 1 ∧ a.count a[i] = 1
  ·have : ¬ anyB (nearB t a i) t.length 0 = true := fun h => key.1 h hc
   rw [if_neg this]
   simp [hc.1, hc.2]
  ·rw [if_pos (key.2 hc)]
   by_cases h1 : t.count t[i] = 1
   ·have h2 : ¬ a.count a[i] = 1 := fun h2 => hc ⟨h1, h2⟩
    simp [h2]
   ·simp [h1]
def W (x : Int) : Int := IntKind.i64.wrap x
def movN (p t : List Int) : Int := if bothE p t ≠ 0 then 0 else movV p t
theorem movT_eq (p t : List Int) : movT p t = [.int .i64 (movN p t), .int .i64 (bothE p t)] := by
 unfold movT movN
 by_cases h : bothE p t = 0
 ·rw [if_neg (by simp [h]), if_neg (by simp [h]), h]
 ·rw [if_pos h, if_pos h]
def honF (t a : List Int) : Int := if a.contains (-1) = true then 0 else (if 0 < W (3 - movN (numL a []) t) then W (3 - movN (numL a []) t) else 0)
def ptsW (s : Scoring) (x : Score) : Int := W (W (W (W (W (s.packet * x.packets) + W (s.pair * x.pairs)) + W (s.new * x.new)) + W (s.whole * x.whole)) - W (s.loss * x.wrong))
def bareF (t a : List Int) (n : Nat) : Score := { points := 0, packets := cntB (rightB t a) n, wrong := cntB (fun j => hasB a j && !rightB t a j) n, pairs := pairN t a n, new := cntB (heardB t a) n, whole := 0, start := stN t a n, honour := 0 }
def wholeF (t a : List Int) (n : Nat) : Score := { bareF t a n with whole := if allR t a n = true then 1 else 0, honour := honF t a }
def markF (s : Scoring) (t a : List Int) : Score := { wholeF t a t.length with points := ptsW s (wholeF t a t.length) }
def xbox (x : Score) : Blk := .box [.pure (.int .i64 x.points), .pure (.int .i64 x.packets), .pure (.int .i64 x.wrong), .pure (.int .i64 x.pairs), .pure (.int .i64 x.new), .pure (.int .i64 x.whole), .pure (.int .i64 x.start), .pure (.int .i64 x.honour)]
end Go.Gh
