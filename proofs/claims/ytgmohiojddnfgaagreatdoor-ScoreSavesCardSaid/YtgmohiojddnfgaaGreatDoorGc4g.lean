/- Texts joined: the evaluator over ghost values, its soundness, the walks. Spaces struck and names made short by a program, for the size. -/
import Derived.Test.YtgmohiojddnfgaaGreatDoorGc4f
import Derived.Test.YtgmohiojddnfgaaGreatDoorProg
import Derived.KernelRfl
import Derived.IntWalk
namespace Go.Gh
open Go.Proofs
set_option linter.unusedVariables false
set_option linter.unusedSimpArgs false
set_option linter.unnecessarySimpa false
set_option maxRecDepth 100000
set_option maxHeartbeats 8000000
def annT : List (Nat × Nat × List Nat × List Nat) := [(4, 6, [3, 4, 5, 13, 14, 15], [12, 14]), (4, 14, [14, 20], [12]), (6, 10, [3, 4, 5, 6, 7, 9, 10], [2, 3, 4, 6, 9]), (10, 4, [0, 3, 4], [3]), (17, 3, [0, 3], [0, 2]), (19, 7, [0, 6, 7, 8], [6, 7]), (19, 11, [0, 6, 7, 8, 9, 10], [0, 6, 7, 8, 9]), (20, 8, [1, 5, 33, 34, 35], [1, 5]), (20, 12, [1, 5, 33, 34, 35, 40, 41, 42], [1, 5, 33, 34, 35]), (21, 7, [1, 5, 6], [1, 5]), (21, 11, [1, 5, 6, 7], [1, 5, 6]), (22, 8, [2, 5, 6, 7, 8, 26, 27, 28], [2, 3, 4, 5, 6, 7, 8]), (23, 8, [2, 5, 6, 7, 8, 9], [2, 3, 4, 5, 6, 7, 8]), (25, 4, [0, 4, 7, 8], [7]), (26, 11, [4, 8, 9, 10, 26, 27, 28], [4, 8, 9]), (29, 5, [2, 3, 4, 5], [2, 3]), (30, 5, [0, 1, 5, 6, 7], [5]), (32, 5, [0, 1, 5], [4]), (33, 5, [0, 1, 5], [4]), (63, 11, [1, 3, 6, 7, 30, 31, 32], [3, 6, 7, 8]), (63, 19, [3, 6, 7, 53, 54], [6, 7]), (63, 23, [3, 6, 7, 14, 15, 53, 54, 58, 59], [3, 6, 7, 15, 53, 54]), (65, 12, [1, 33, 34, 35], [1, 2]), (66, 11, [1, 3], [1, 2]), (66, 17, [1, 3, 5], [1, 2, 3]), (69, 4, [4, 9, 10, 11], [2, 3, 4]), (71, 5, [0, 1, 5, 6, 7], [5]), (72, 8, [0, 2, 4, 5, 6, 7, 8, 9], [2, 3]), (73, 4, [0, 4, 5], [2, 3, 4]), (74, 6, [0, 6, 7], [4, 5, 6]), (75, 5, [0, 1, 5], [4]), (76, 5, [3, 14, 15, 16], [3]), (79, 4, [0, 1, 5, 6], [5]), (81, 3, [1, 17, 18], [1, 2]), (81, 11, [1, 30, 31, 32], [2]), (82, 8, [3, 14, 15, 16], [2]), (97, 5, [11, 12, 13], [4]), (98, 5, [2, 3, 4, 5, 6, 7, 17, 18], [2, 3, 4, 5, 6]), (98, 10, [2, 3, 4, 5, 6, 7, 8, 9, 17, 18, 28, 29], [2, 3, 4, 5, 6, 7, 8, 9, 17, 18]), (99, 4, [1, 2, 3, 9, 15, 16, 17], [8]), (101, 4, [1, 5, 8, 9, 10], [5]), (103, 5, [0, 1, 5], [4]), (104, 3, [0, 1, 7, 8], [4]), (113, 4, [0, 3, 4, 5], [3]), (113, 7, [0, 3, 4, 5, 6], [0, 3, 4, 5, 6]), (133, 7, [0, 1, 7, 24, 25], [0, 1, 7]), (133, 13, [0, 1, 7, 9, 48, 49], [0, 1, 7, 9]), (133, 19, [0, 1, 7, 9, 59, 60], [0, 9]), (133, 23, [0, 1, 7, 11, 12, 59, 60, 65, 66, 67], [0, 1, 7, 12, 59, 60]), (133, 27, [0, 1, 7, 11, 12, 13, 14, 59, 60, 65, 66, 67, 75, 76], [0, 1, 7, 11, 12, 59, 60, 65, 66, 67]), (135, 2, [0, 7, 8, 9], []), (137, 3, [0, 1, 7, 8], [4]), (154, 5, [3, 4, 10, 11, 12], [4]), (157, 6, [0, 3, 4], [3])]
def upT : List (Nat × Nat × Up) := [(4, 86, .scopes 1), (19, 54, .scopes 1), (19, 59, .box 7), (22, 61, .box 2), (23, 58, .box 6), (25, 47, .scopes 1), (29, 42, .box 3), (30, 23, .scopes 1), (50, 14, .box 0), (63, 50, .scopes 1), (63, 73, .scopes 1), (69, 19, .scopes 1), (69, 30, .scopes 1), (71, 31, .scopes 1), (73, 33, .scopes 1), (76, 29, .box 3), (77, 6, .box 1), (79, 20, .scopes 1), (106, 7, .scopes 0), (113, 40, .scopes 1), (113, 44, .scopes 1), (154, 32, .scopes 1)]
def annOf (f r : Nat) : Option (List Nat × List Nat) := (annT.find? fun x => x.1 == f && x.2.1 == r).map fun x => x.2.2
def upOf (f d : Nat) : Up := ((upT.find? fun x => x.1 == f && x.2.1 == d).map fun x => x.2.2).getD (.scopes 0)
def needL : List (Nat × Nat × List (Nat × Nat)) := [(4, 3, [(2, 0), (3, 0)]), (6, 29, [(4, 1)]), (20, 5, [(6, 2), (11, 2), (11, 7), (13, 2), (13, 7)]), (21, 4, [(6, 2), (12, 2), (12, 7), (12, 10)]), (25, 5, [(7, 2), (7, 4), (8, 2), (8, 4), (13, 2), (13, 4), (13, 10)]), (26, 14, [(5, 4)]), (52, 1, [(8, 4), (9, 4)]), (65, 16, [(6, 4), (8, 4)]), (76, 6, [(7, 5)]), (159, 1, [(6, 5), (10, 5)])]
def needT (f r : Nat) : List (Nat × Nat) := ((needL.find? fun x => x.1 == f && x.2.1 == r).map fun x => x.2.2).getD []
def eqsOf : Nat → Option (List SK)
 | 121 => some [.int .i64, .int .i64, .int .i64, .int .i64, .int .i64, .int .i64, .int .i64, .int .i64]
 | _ => none
def litL : List (Nat × Nat) := [(4, 47)]
def typL : List Nat := [5, 105]
def extOf : Nat → Option (List GV → Heap → Option (GV × Heap))
 | 51 => some extItoa
 | 95 => some (extAtoi 222)
 | 55 => some extSplit
 | 90 => some (extCopy 105)
 | 18 => some (extTold [([], .bool true)])
 | _ => none
def keepL : List Nat := [10, 25, 76, 68, 72, 106]
def frzL : List Nat := [65, 66, 24, 20, 21, 63, 26, 80, 106]
def borL : List Nat := [60, 99, 157, 97, 103]
def clnL : List Nat := [106, 18, 51, 55, 90, 95]
def ownL : List (Nat × Nat) := []
def carL : List (Nat × Nat) := []
def liftOf (f d : Nat) : Option Nat := if f = 76 ∧ d = 27 then some 3 else none
def rowOf (f d : Nat) : Option Nat := if f = 76 ∧ d = 27 then some 77 else if f = 76 ∧ d = 29 then some 77 else none
noncomputable def KC0 (cl : List Nat) : Ctx := { P := Tryz.prog, keep := fun f => keepL.contains f, ann := annOf, up := upOf, own := fun f d => ownL.contains (f, d), frz := fun f => frzL.contains f, bor := fun f => borL.contains f, car := fun f r => carL.contains (f, r), cln := fun f => cl.contains f, lift := liftOf, row := rowOf, eqs := eqsOf, typ := fun t => typL.contains t, ext := extOf, lit := fun f d => litL.contains (f, d) }
noncomputable def KC : Ctx := KC0 clnL
section
@[simp] theorem KC_P : KC.P = Tryz.prog := .trans rfl rfl
@[simp] theorem KC_own {f d : Nat} : KC.own f d = ownL.contains (f, d) := .trans rfl rfl
@[simp] theorem KC_lift {f d : Nat} : KC.lift f d = liftOf f d := .trans rfl rfl
@[simp] theorem KC_row {f d : Nat} : KC.row f d = rowOf f d := .trans rfl rfl
attribute [simp] liftOf ownL rowOf
@[simp] theorem KC_lit {f d : Nat} : KC.lit f d = litL.contains (f, d) := .trans rfl rfl
attribute [simp] litL
@[simp] theorem KC_typ {t : Nat} : KC.typ t = typL.contains t := .trans rfl rfl
attribute [simp] typL
@[simp] theorem ty_typ26 : typE KC 26 = false := by kernel_rfl
@[simp] theorem ty_typ33 : typE KC 33 = false := by kernel_rfl
@[simp] theorem ty_typ42 : typE KC 42 = false := by kernel_rfl
@[simp] theorem KC_ann_4_6 : KC.ann 4 6 = some ([3, 4, 5, 13, 14, 15], [12, 14]) := by kernel_rfl
@[simp] theorem KC_car_4_6 : KC.car 4 6 = false := by kernel_rfl
@[simp] theorem KC_ann_4_14 : KC.ann 4 14 = some ([14, 20], [12]) := by kernel_rfl
@[simp] theorem KC_car_4_14 : KC.car 4 14 = false := by kernel_rfl
@[simp] theorem KC_ann_10_4 : KC.ann 10 4 = some ([0, 3, 4], [3]) := by kernel_rfl
@[simp] theorem KC_car_10_4 : KC.car 10 4 = false := by kernel_rfl
@[simp] theorem KC_ann_17_3 : KC.ann 17 3 = some ([0, 3], [0, 2]) := by kernel_rfl
@[simp] theorem KC_car_17_3 : KC.car 17 3 = false := by kernel_rfl
@[simp] theorem KC_ann_19_7 : KC.ann 19 7 = some ([0, 6, 7, 8], [6, 7]) := by kernel_rfl
@[simp] theorem KC_car_19_7 : KC.car 19 7 = false := by kernel_rfl
@[simp] theorem KC_ann_19_11 : KC.ann 19 11 = some ([0, 6, 7, 8, 9, 10], [0, 6, 7, 8, 9]) := by kernel_rfl
@[simp] theorem KC_car_19_11 : KC.car 19 11 = false := by kernel_rfl
@[simp] theorem KC_ann_20_8 : KC.ann 20 8 = some ([1, 5, 33, 34, 35], [1, 5]) := by kernel_rfl
@[simp] theorem KC_car_20_8 : KC.car 20 8 = false := by kernel_rfl
@[simp] theorem KC_ann_20_12 : KC.ann 20 12 = some ([1, 5, 33, 34, 35, 40, 41, 42], [1, 5, 33, 34, 35]) := by kernel_rfl
@[simp] theorem KC_car_20_12 : KC.car 20 12 = false := by kernel_rfl
@[simp] theorem KC_ann_21_7 : KC.ann 21 7 = some ([1, 5, 6], [1, 5]) := by kernel_rfl
@[simp] theorem KC_car_21_7 : KC.car 21 7 = false := by kernel_rfl
@[simp] theorem KC_ann_21_11 : KC.ann 21 11 = some ([1, 5, 6, 7], [1, 5, 6]) := by kernel_rfl
@[simp] theorem KC_car_21_11 : KC.car 21 11 = false := by kernel_rfl
@[simp] theorem KC_ann_22_8 : KC.ann 22 8 = some ([2, 5, 6, 7, 8, 26, 27, 28], [2, 3, 4, 5, 6, 7, 8]) := by kernel_rfl
@[simp] theorem KC_car_22_8 : KC.car 22 8 = false := by kernel_rfl
@[simp] theorem KC_ann_23_8 : KC.ann 23 8 = some ([2, 5, 6, 7, 8, 9], [2, 3, 4, 5, 6, 7, 8]) := by kernel_rfl
@[simp] theorem KC_car_23_8 : KC.car 23 8 = false := by kernel_rfl
@[simp] theorem KC_ann_33_5 : KC.ann 33 5 = some ([0, 1, 5], [4]) := by kernel_rfl
@[simp] theorem KC_car_33_5 : KC.car 33 5 = false := by kernel_rfl
@[simp] theorem KC_ann_65_12 : KC.ann 65 12 = some ([1, 33, 34, 35], [1, 2]) := by kernel_rfl
@[simp] theorem KC_car_65_12 : KC.car 65 12 = false := by kernel_rfl
@[simp] theorem KC_ann_66_11 : KC.ann 66 11 = some ([1, 3], [1, 2]) := by kernel_rfl
@[simp] theorem KC_car_66_11 : KC.car 66 11 = false := by kernel_rfl
@[simp] theorem KC_ann_66_17 : KC.ann 66 17 = some ([1, 3, 5], [1, 2, 3]) := by kernel_rfl
@[simp] theorem KC_car_66_17 : KC.car 66 17 = false := by kernel_rfl
@[simp] theorem KC_ann_69_4 : KC.ann 69 4 = some ([4, 9, 10, 11], [2, 3, 4]) := by kernel_rfl
@[simp] theorem KC_car_69_4 : KC.car 69 4 = false := by kernel_rfl
@[simp] theorem KC_ann_71_5 : KC.ann 71 5 = some ([0, 1, 5, 6, 7], [5]) := by kernel_rfl
@[simp] theorem KC_car_71_5 : KC.car 71 5 = false := by kernel_rfl
@[simp] theorem KC_ann_72_8 : KC.ann 72 8 = some ([0, 2, 4, 5, 6, 7, 8, 9], [2, 3]) := by kernel_rfl
@[simp] theorem KC_car_72_8 : KC.car 72 8 = false := by kernel_rfl
@[simp] theorem KC_ann_73_4 : KC.ann 73 4 = some ([0, 4, 5], [2, 3, 4]) := by kernel_rfl
@[simp] theorem KC_car_73_4 : KC.car 73 4 = false := by kernel_rfl
@[simp] theorem KC_ann_74_6 : KC.ann 74 6 = some ([0, 6, 7], [4, 5, 6]) := by kernel_rfl
@[simp] theorem KC_car_74_6 : KC.car 74 6 = false := by kernel_rfl
@[simp] theorem KC_ann_75_5 : KC.ann 75 5 = some ([0, 1, 5], [4]) := by kernel_rfl
@[simp] theorem KC_car_75_5 : KC.car 75 5 = false := by kernel_rfl
@[simp] theorem KC_ann_97_5 : KC.ann 97 5 = some ([11, 12, 13], [4]) := by kernel_rfl
@[simp] theorem KC_car_97_5 : KC.car 97 5 = false := by kernel_rfl
@[simp] theorem KC_ann_101_4 : KC.ann 101 4 = some ([1, 5, 8, 9, 10], [5]) := by kernel_rfl
@[simp] theorem KC_car_101_4 : KC.car 101 4 = false := by kernel_rfl
@[simp] theorem KC_ann_103_5 : KC.ann 103 5 = some ([0, 1, 5], [4]) := by kernel_rfl
@[simp] theorem KC_car_103_5 : KC.car 103 5 = false := by kernel_rfl
@[simp] theorem KC_ann_104_3 : KC.ann 104 3 = some ([0, 1, 7, 8], [4]) := by kernel_rfl
@[simp] theorem KC_car_104_3 : KC.car 104 3 = false := by kernel_rfl
@[simp] theorem KC_ann_135_2 : KC.ann 135 2 = some ([0, 7, 8, 9], []) := by kernel_rfl
@[simp] theorem KC_car_135_2 : KC.car 135 2 = false := by kernel_rfl
@[simp] theorem KC_ann_137_3 : KC.ann 137 3 = some ([0, 1, 7, 8], [4]) := by kernel_rfl
@[simp] theorem KC_car_137_3 : KC.car 137 3 = false := by kernel_rfl
@[simp] theorem KC_up_4_86 : KC.up 4 86 = .scopes 1 := by kernel_rfl
@[simp] theorem KC_up_19_54 : KC.up 19 54 = .scopes 1 := by kernel_rfl
@[simp] theorem KC_up_19_59 : KC.up 19 59 = .box 7 := by kernel_rfl
@[simp] theorem KC_up_22_61 : KC.up 22 61 = .box 2 := by kernel_rfl
@[simp] theorem KC_up_23_58 : KC.up 23 58 = .box 6 := by kernel_rfl
@[simp] theorem KC_up_50_14 : KC.up 50 14 = .box 0 := by kernel_rfl
@[simp] theorem KC_up_69_19 : KC.up 69 19 = .scopes 1 := by kernel_rfl
@[simp] theorem KC_up_69_30 : KC.up 69 30 = .scopes 1 := by kernel_rfl
@[simp] theorem KC_up_71_31 : KC.up 71 31 = .scopes 1 := by kernel_rfl
@[simp] theorem KC_up_73_33 : KC.up 73 33 = .scopes 1 := by kernel_rfl
@[simp] theorem need_4_3 : needT 4 3 = [(2, 0), (3, 0)] := by kernel_rfl
@[simp] theorem need_10_5 : needT 10 5 = [] := by kernel_rfl
@[simp] theorem need_13_7 : needT 13 7 = [] := by kernel_rfl
@[simp] theorem need_13_9 : needT 13 9 = [] := by kernel_rfl
@[simp] theorem need_13_10 : needT 13 10 = [] := by kernel_rfl
@[simp] theorem need_20_5 : needT 20 5 = [(6, 2), (11, 2), (11, 7), (13, 2), (13, 7)] := by kernel_rfl
@[simp] theorem need_21_4 : needT 21 4 = [(6, 2), (12, 2), (12, 7), (12, 10)] := by kernel_rfl
@[simp] theorem need_33_6 : needT 33 6 = [] := by kernel_rfl
@[simp] theorem need_52_1 : needT 52 1 = [(8, 4), (9, 4)] := by kernel_rfl
@[simp] theorem need_65_16 : needT 65 16 = [(6, 4), (8, 4)] := by kernel_rfl
@[simp] theorem need_66_12 : needT 66 12 = [] := by kernel_rfl
@[simp] theorem need_68_5 : needT 68 5 = [] := by kernel_rfl
@[simp] theorem need_72_9 : needT 72 9 = [] := by kernel_rfl
@[simp] theorem need_75_6 : needT 75 6 = [] := by kernel_rfl
end
@[simp] theorem ty_agg3 : tagg Tryz.prog 3 = some false := by kernel_rfl
@[simp] theorem ty_size3 : tsize Tryz.prog 3 = some 1 := by kernel_rfl
@[simp] theorem ty_zero3 : tzero Tryz.prog 3 = some (.pure (.int .i64 0)) := by kernel_rfl
@[simp] theorem ty_agg4 : tagg Tryz.prog 4 = some false := by kernel_rfl
@[simp] theorem ty_size4 : tsize Tryz.prog 4 = some 1 := by kernel_rfl
@[simp] theorem ty_zero4 : tzero Tryz.prog 4 = some (.pure (.bool false)) := by kernel_rfl
@[simp] theorem ty_agg9 : tagg Tryz.prog 9 = some false := by kernel_rfl
@[simp] theorem ty_size9 : tsize Tryz.prog 9 = some 1 := by kernel_rfl
@[simp] theorem ty_arr9 : tarrS Tryz.prog 9 = none := by kernel_rfl
@[simp] theorem ty_spread9 : spreads Tryz.prog (some 9) = true := by kernel_rfl
@[simp] theorem ty_agg26 : tagg Tryz.prog 26 = some false := by kernel_rfl
@[simp] theorem ty_size26 : tsize Tryz.prog 26 = some 1 := by kernel_rfl
@[simp] theorem ty_elem26 : telemS Tryz.prog 26 = some (some 1) := by kernel_rfl
@[simp] theorem ty_arr26 : tarrS Tryz.prog 26 = none := by kernel_rfl
@[simp] theorem ty_app26 : tapp Tryz.prog 26 = some ((some 1), (some 8), (some 1)) := by kernel_rfl
@[simp] theorem ty_lit26 : tlit Tryz.prog 26 = some ((some 1), (some [(.pure (.int .i64 0))])) := by kernel_rfl
@[simp] theorem ty_spread26 : spreads Tryz.prog (some 26) = true := by kernel_rfl
@[simp] theorem ty_agg33 : tagg Tryz.prog 33 = some false := by kernel_rfl
@[simp] theorem ty_size33 : tsize Tryz.prog 33 = some 1 := by kernel_rfl
@[simp] theorem ty_elem33 : telemS Tryz.prog 33 = some (some 1) := by kernel_rfl
@[simp] theorem ty_arr33 : tarrS Tryz.prog 33 = none := by kernel_rfl
@[simp] theorem ty_app33 : tapp Tryz.prog 33 = some ((some 1), (some 16), (some 1)) := by kernel_rfl
@[simp] theorem ty_lit33 : tlit Tryz.prog 33 = some ((some 1), (some [(.pure (.str []))])) := by kernel_rfl
@[simp] theorem ty_spread33 : spreads Tryz.prog (some 33) = true := by kernel_rfl
@[simp] theorem ty_agg42 : tagg Tryz.prog 42 = some false := by kernel_rfl
@[simp] theorem ty_size42 : tsize Tryz.prog 42 = some 1 := by kernel_rfl
@[simp] theorem ty_elem42 : telemS Tryz.prog 42 = some (some 1) := by kernel_rfl
@[simp] theorem ty_arr42 : tarrS Tryz.prog 42 = none := by kernel_rfl
@[simp] theorem ty_app42 : tapp Tryz.prog 42 = some ((some 1), (some 24), (some 1)) := by kernel_rfl
@[simp] theorem ty_lit42 : tlit Tryz.prog 42 = some ((some 1), (some [.nils])) := by kernel_rfl
@[simp] theorem ty_spread42 : spreads Tryz.prog (some 42) = true := by kernel_rfl
@[simp] theorem ty_agg44 : tagg Tryz.prog 44 = some true := by kernel_rfl
@[simp] theorem ty_size44 : tsize Tryz.prog 44 = some 4 := by kernel_rfl
@[simp] theorem ty_zero44 : tzero Tryz.prog 44 = some (.agg [(.pure (.int .i64 0)), (.pure (.int .i64 0)), (.pure (.int .i64 0)), .nils]) := by kernel_rfl
@[simp] theorem ty_arr44 : tarrS Tryz.prog 44 = none := by kernel_rfl
@[simp] theorem ty_places44 : tplaces Tryz.prog 44 = some [(0, 1), (1, 1), (2, 1), (3, 1)] := by kernel_rfl
@[simp] theorem ty_elem47 : telemS Tryz.prog 47 = some (some 4) := by kernel_rfl
@[simp] theorem ty_arr47 : tarrS Tryz.prog 47 = none := by kernel_rfl
@[simp] theorem ty_lit47 : tlit Tryz.prog 47 = some ((some 4), (some [(.pure (.int .i64 0)), (.pure (.int .i64 0)), (.pure (.int .i64 0)), .nils])) := by kernel_rfl
@[simp] theorem ty_agg97 : tagg Tryz.prog 97 = some false := by kernel_rfl
@[simp] theorem ty_size97 : tsize Tryz.prog 97 = some 1 := by kernel_rfl
@[simp] theorem ty_zero99 : tzero Tryz.prog 99 = some (.pure (.agg [(.int .u64 0)])) := by kernel_rfl
@[simp] theorem ty_arr99 : tarrS Tryz.prog 99 = none := by kernel_rfl
@[simp] theorem ty_places99 : tplaces Tryz.prog 99 = some [(0, 1)] := by kernel_rfl
@[simp] theorem ty_agg103 : tagg Tryz.prog 103 = some false := by kernel_rfl
@[simp] theorem ty_size103 : tsize Tryz.prog 103 = some 1 := by kernel_rfl
@[simp] theorem ty_lit103 : tlit Tryz.prog 103 = some ((some 1), (some [(.pure (.int .u8 0))])) := by kernel_rfl
@[simp] theorem ty_zero105 : tzero Tryz.prog 105 = some (.agg [(.pure .nilp), .nils]) := by kernel_rfl
@[simp] theorem ty_arr129 : tarrS Tryz.prog 129 = some (5, (some 1), (some false)) := by kernel_rfl
@[simp] theorem ty_fs44_0 : tfs Tryz.prog 44 0 = some (0, (some 1)) := by kernel_rfl
@[simp] theorem ty_fs44_1 : tfs Tryz.prog 44 1 = some (1, (some 1)) := by kernel_rfl
@[simp] theorem ty_fs44_2 : tfs Tryz.prog 44 2 = some (2, (some 1)) := by kernel_rfl
@[simp] theorem ty_fs44_3 : tfs Tryz.prog 44 3 = some (3, (some 1)) := by kernel_rfl
@[simp] theorem ty_fs99_0 : tfs Tryz.prog 99 0 = some (0, (some 1)) := by kernel_rfl
@[simp] theorem ty_fs105_1 : tfs Tryz.prog 105 1 = some (1, (some 1)) := by kernel_rfl
attribute [simp] Tryz.results4 Tryz.ntmps4
attribute [simp] Tryz.results5 Tryz.ntmps5
attribute [simp] Tryz.results6 Tryz.ntmps6
attribute [simp] Tryz.results10 Tryz.ntmps10
attribute [simp] Tryz.results13 Tryz.ntmps13
attribute [simp] Tryz.results17 Tryz.ntmps17
attribute [simp] Tryz.results19 Tryz.ntmps19
attribute [simp] Tryz.results20 Tryz.ntmps20
attribute [simp] Tryz.results21 Tryz.ntmps21
attribute [simp] Tryz.results22 Tryz.ntmps22
attribute [simp] Tryz.results23 Tryz.ntmps23
attribute [simp] Tryz.results24 Tryz.ntmps24
attribute [simp] Tryz.results25 Tryz.ntmps25
attribute [simp] Tryz.results26 Tryz.ntmps26
attribute [simp] Tryz.results27 Tryz.ntmps27
attribute [simp] Tryz.results28 Tryz.ntmps28
attribute [simp] Tryz.results29 Tryz.ntmps29
attribute [simp] Tryz.results30 Tryz.ntmps30
attribute [simp] Tryz.results31 Tryz.ntmps31
attribute [simp] Tryz.results32 Tryz.ntmps32
attribute [simp] Tryz.results33 Tryz.ntmps33
attribute [simp] Tryz.results42 Tryz.ntmps42
attribute [simp] Tryz.results44 Tryz.ntmps44
attribute [simp] Tryz.results45 Tryz.ntmps45
attribute [simp] Tryz.results46 Tryz.ntmps46
attribute [simp] Tryz.results47 Tryz.ntmps47
attribute [simp] Tryz.results50 Tryz.ntmps50
attribute [simp] Tryz.results52 Tryz.ntmps52
attribute [simp] Tryz.results63 Tryz.ntmps63
attribute [simp] Tryz.results65 Tryz.ntmps65
attribute [simp] Tryz.results66 Tryz.ntmps66
attribute [simp] Tryz.results67 Tryz.ntmps67
attribute [simp] Tryz.results68 Tryz.ntmps68
attribute [simp] Tryz.results69 Tryz.ntmps69
attribute [simp] Tryz.results70 Tryz.ntmps70
attribute [simp] Tryz.results71 Tryz.ntmps71
attribute [simp] Tryz.results72 Tryz.ntmps72
attribute [simp] Tryz.results73 Tryz.ntmps73
attribute [simp] Tryz.results74 Tryz.ntmps74
attribute [simp] Tryz.results75 Tryz.ntmps75
attribute [simp] Tryz.results76 Tryz.ntmps76
attribute [simp] Tryz.results77 Tryz.ntmps77
attribute [simp] Tryz.results78 Tryz.ntmps78
attribute [simp] Tryz.results79 Tryz.ntmps79
attribute [simp] Tryz.results80 Tryz.ntmps80
attribute [simp] Tryz.results81 Tryz.ntmps81
attribute [simp] Tryz.results82 Tryz.ntmps82
attribute [simp] Tryz.results97 Tryz.ntmps97
attribute [simp] Tryz.results98 Tryz.ntmps98
attribute [simp] Tryz.results99 Tryz.ntmps99
attribute [simp] Tryz.results100 Tryz.ntmps100
attribute [simp] Tryz.results101 Tryz.ntmps101
attribute [simp] Tryz.results102 Tryz.ntmps102
attribute [simp] Tryz.results103 Tryz.ntmps103
attribute [simp] Tryz.results104 Tryz.ntmps104
attribute [simp] Tryz.results105 Tryz.ntmps105
attribute [simp] Tryz.results106 Tryz.ntmps106
attribute [simp] Tryz.results107 Tryz.ntmps107
attribute [simp] Tryz.results108 Tryz.ntmps108
attribute [simp] Tryz.results109 Tryz.ntmps109
attribute [simp] Tryz.results110 Tryz.ntmps110
attribute [simp] Tryz.results111 Tryz.ntmps111
attribute [simp] Tryz.results112 Tryz.ntmps112
attribute [simp] Tryz.results113 Tryz.ntmps113
attribute [simp] Tryz.results114 Tryz.ntmps114
attribute [simp] Tryz.results130 Tryz.ntmps130
attribute [simp] Tryz.results131 Tryz.ntmps131
attribute [simp] Tryz.results132 Tryz.ntmps132
attribute [simp] Tryz.results133 Tryz.ntmps133
attribute [simp] Tryz.results134 Tryz.ntmps134
attribute [simp] Tryz.results135 Tryz.ntmps135
attribute [simp] Tryz.results136 Tryz.ntmps136
attribute [simp] Tryz.results137 Tryz.ntmps137
attribute [simp] Tryz.results154 Tryz.ntmps154
attribute [simp] Tryz.results155 Tryz.ntmps155
attribute [simp] Tryz.results156 Tryz.ntmps156
attribute [simp] Tryz.results157 Tryz.ntmps157
attribute [simp] Tryz.results158 Tryz.ntmps158
attribute [simp] Tryz.results159 Tryz.ntmps159
attribute [simp] Tryz.results160 Tryz.ntmps160
attribute [simp] Tryz.results161 Tryz.ntmps161
attribute [simp] Tryz.results162 Tryz.ntmps162
attribute [simp] Tryz.results163 Tryz.ntmps163
attribute [simp] Tryz.results164 Tryz.ntmps164
attribute [simp] Tryz.results165 Tryz.ntmps165
section
def loopsOf : Code → List Code
 | .seq a b => loopsOf a ++ loopsOf b
 | .cond _ a b => loopsOf a ++ loopsOf b
 | .block _ a => loopsOf a
 | .scope a => loopsOf a
 | .loop a => a :: loopsOf a
 | .rangeFunc _ _ a b => loopsOf a ++ loopsOf b
 | _ => []
def lp (g : Func) (k : Nat) : Code := ((loopsOf (g.body.getD .skip))[k]?).getD .skip
noncomputable def hid {α : Type} (a : α) : α := Classical.choose (⟨a, rfl⟩ : ∃ x, x = a)
theorem hid_eq {α : Type} (a : α) : hid a = a := Classical.choose_spec (⟨a, rfl⟩ : ∃ x, x = a)
@[simp] theorem firstRegion_scope {a : Code} : firstRegion (.scope a) = firstRegion a := .trans rfl rfl
@[simp] theorem firstRegion_label {l : Nat} : firstRegion (.label l) = 0 := .trans rfl rfl
section
variable {K : Ctx} {fn : FuncId} {H : Heap}
def saV (v : GV) (x : Option (GV × Heap)) : Bool := match x with | some (v', _) => GV.beq v' v | none => false
@[simp] theorem saV_some {v v' : GV} : saV v (some (v', H)) = GV.beq v' v := rfl
@[simp] theorem sameAt_def {o : Oper} {s : Slots} {v : GV} : sameAt K fn o s v H = saV v (gop K fn o s H) := by
 unfold sameAt saV; rfl
@[simp] theorem natCast_lt_zero (n : Nat) : ((n : Int) < 0) = False := by simp
theorem w64 {x : Int} (h1 : -9223372036854775808 ≤ x) (h2 : x ≤ 9223372036854775807) : IntKind.i64.wrap x = x := IntWalk.i64_in x ⟨h1, h2⟩
def wbox (w : Int) : Blk := .box [.pure (.int .u64 w)]
def isBox (H : Heap) (nm : Nm) : Prop := ∃ w, H.get nm = some (wbox w) ∧ H.set nm (wbox w) = H
def wordAt (H : Heap) (nm : Nm) : Int := match H.get nm with | some (.box [.pure (.int _ w)]) => w | _ => 0
theorem isBox_get {nm : Nm} (h : isBox H nm) : H.get nm = some (wbox (wordAt H nm)) := by
 obtain ⟨w, h1, h2⟩ := h
 simp only [wordAt, h1, wbox]
theorem isBox_set {nm : Nm} (h : isBox H nm) : H.set nm (wbox (wordAt H nm)) = H := by
 obtain ⟨w, h1, h2⟩ := h
 simp only [wordAt, h1, wbox]
 exact h2
theorem isBox_lt {nm : Nm} (h : isBox H nm) : nm.1 < H.length := by
 obtain ⟨w, h1, h2⟩ := h
 exact Heap.get_lt h1
theorem Fr.ins_ins {q : Nat} {x y : Blk} : ∀ f : Fr, (f.ins q x).ins q y = f.ins q y
  | [] => by simp [Fr.ins]
  | (k, b) :: r => by
    simp only [Fr.ins]
    split
    · simp [Fr.ins]
    · rename_i h
      split
      · simp [Fr.ins]
      · rename_i h2
        simp only [Fr.ins, h, h2, if_false, Fr.ins_ins r]
@[simp] theorem Heap.set_set {nm : Nm} {x y : Blk} : ∀ {H : Heap}, (H.set nm x).set nm y = H.set nm y
 | [] => rfl
 | f :: H => by
  simp only [Heap.set]
  split
  ·rename_i h; simp only [Heap.set, h, if_true, Fr.ins_ins]
  ·rename_i h; simp only [Heap.set, Heap.length_set, h, if_false, Heap.set_set]
attribute [simp] Heap.length_set
@[simp] theorem Heap.get_set' {nm : Nm} {b : Blk} (h : nm.1 < H.length) : (H.set nm b).get nm = some b := Heap.get_set b h
@[simp] theorem wordAt_set {nm : Nm} {w : Int} (h : nm.1 < H.length) : wordAt (H.set nm (wbox w)) nm = w := by
 simp only [wordAt, Heap.get_set' h, wbox]
@[simp] theorem isBox_set' {nm : Nm} {w : Int} (h : nm.1 < H.length) : isBox (H.set nm (wbox w)) nm := ⟨w, Heap.get_set' h, Heap.set_set⟩
theorem isBox_up {nm : Nm} {fr : Fr} (h : isBox H nm) : isBox (fr :: H) nm := by
 have hl := isBox_lt h
 obtain ⟨w, h1, h2⟩ := h
 have : ¬ nm.1 = H.length := by omega
 exact ⟨w, by simp [this, h1], by simp [this, h2]⟩
theorem wordAt_up {nm : Nm} {fr : Fr} (h : nm.1 < H.length) : wordAt (fr :: H) nm = wordAt H nm := by
 have : ¬ nm.1 = H.length := by omega
 simp [wordAt, this]
theorem Heap.set_up {nm : Nm} {fr : Fr} {b : Blk} (h : nm.1 < H.length) : Heap.set (fr :: H) nm b = fr :: H.set nm b := by
 have : ¬ nm.1 = H.length := by omega
 simp [this]
end
end
theorem good52 : good KC needT 52 (Tryz.f52.body.getD .skip) = true := by kernel_rfl
theorem good50 : good KC needT 50 (Tryz.f50.body.getD .skip) = true := by kernel_rfl
theorem good46 : good KC needT 46 (Tryz.f46.body.getD .skip) = true := by kernel_rfl
theorem good44 : good KC needT 44 (Tryz.f44.body.getD .skip) = true := by kernel_rfl
theorem good42 : good KC needT 42 (Tryz.f42.body.getD .skip) = true := by kernel_rfl
theorem good47 : good KC needT 47 (Tryz.f47.body.getD .skip) = true := by kernel_rfl
theorem good13 : good KC needT 13 (Tryz.f13.body.getD .skip) = true := by kernel_rfl
theorem good10 : good KC needT 10 (Tryz.f10.body.getD .skip) = true := by kernel_rfl
theorem good33 : good KC needT 33 (Tryz.f33.body.getD .skip) = true := by kernel_rfl
theorem good75 : good KC needT 75 (Tryz.f75.body.getD .skip) = true := by kernel_rfl
theorem good24 : good KC needT 24 (Tryz.f24.body.getD .skip) = true := by kernel_rfl
theorem good45 : good KC needT 45 (Tryz.f45.body.getD .skip) = true := by kernel_rfl
theorem good19 : good KC needT 19 (Tryz.f19.body.getD .skip) = true := by kernel_rfl
theorem good4 : good KC needT 4 (Tryz.f4.body.getD .skip) = true := by kernel_rfl
theorem good17 : good KC needT 17 (Tryz.f17.body.getD .skip) = true := by kernel_rfl
theorem good66 : good KC needT 66 (Tryz.f66.body.getD .skip) = true := by kernel_rfl
theorem good23 : good KC needT 23 (Tryz.f23.body.getD .skip) = true := by kernel_rfl
theorem good74 : good KC needT 74 (Tryz.f74.body.getD .skip) = true := by kernel_rfl
theorem good21 : good KC needT 21 (Tryz.f21.body.getD .skip) = true := by kernel_rfl
theorem good71 : good KC needT 71 (Tryz.f71.body.getD .skip) = true := by kernel_rfl
theorem good103 : good KC needT 103 (Tryz.f103.body.getD .skip) = true := by kernel_rfl
theorem good72 : good KC needT 72 (Tryz.f72.body.getD .skip) = true := by kernel_rfl
theorem good73 : good KC needT 73 (Tryz.f73.body.getD .skip) = true := by kernel_rfl
theorem good67 : good KC needT 67 (Tryz.f67.body.getD .skip) = true := by kernel_rfl
theorem good102 : good KC needT 102 (Tryz.f102.body.getD .skip) = true := by kernel_rfl
theorem good65 : good KC needT 65 (Tryz.f65.body.getD .skip) = true := by kernel_rfl
theorem good22 : good KC needT 22 (Tryz.f22.body.getD .skip) = true := by kernel_rfl
theorem good20 : good KC needT 20 (Tryz.f20.body.getD .skip) = true := by kernel_rfl
theorem good101 : good KC needT 101 (Tryz.f101.body.getD .skip) = true := by kernel_rfl
theorem good69 : good KC needT 69 (Tryz.f69.body.getD .skip) = true := by kernel_rfl
theorem good68 : good KC needT 68 (Tryz.f68.body.getD .skip) = true := by kernel_rfl
theorem good70 : good KC needT 70 (Tryz.f70.body.getD .skip) = true := by kernel_rfl
theorem good105 : good KC needT 105 (Tryz.f105.body.getD .skip) = true := by kernel_rfl
theorem good135 : good KC needT 135 (Tryz.f135.body.getD .skip) = true := by kernel_rfl
theorem good100 : good KC needT 100 (Tryz.f100.body.getD .skip) = true := by kernel_rfl
theorem good97 : good KC needT 97 (Tryz.f97.body.getD .skip) = true := by kernel_rfl
theorem good137 : good KC needT 137 (Tryz.f137.body.getD .skip) = true := by kernel_rfl
theorem good104 : good KC needT 104 (Tryz.f104.body.getD .skip) = true := by kernel_rfl
section
@[simp] theorem ne_add2 (n : Nat) : (n = n + 1 + 1) = False := by simp; omega
@[simp] theorem ne_add3 (n : Nat) : (n = n + 1 + 1 + 1) = False := by simp; omega
@[simp] theorem ne_add4 (n : Nat) : (n = n + 1 + 1 + 1 + 1) = False := by simp; omega
@[simp] theorem ne_add2' (n : Nat) : (n + 1 + 1 = n) = False := by simp; omega
@[simp] theorem ne_add3' (n : Nat) : (n + 1 + 1 + 1 = n) = False := by simp; omega
@[simp] theorem nle_add2 (n : Nat) : (n + 1 + 1 ≤ n) = False := by simp; omega
@[simp] theorem nle_add3 (n : Nat) : (n + 1 + 1 + 1 ≤ n) = False := by simp; omega
@[simp] theorem le_add2 (n : Nat) : (n ≤ n + 1 + 1) = True := by simp; omega
@[simp] theorem le_add3 (n : Nat) : (n ≤ n + 1 + 1 + 1) = True := by simp; omega
def apS (nm : Nm) (es : Nat) (rows : List (List PV)) : GV := if rows = [] then .nils else .hdr nm es rows.length 0 rows.length
def apF (key es : Nat) (rows : List (List PV)) (fr : Fr) : Fr := if rows = [] then fr else fr.ins key (.arr es rows 0 false)
theorem apS_nil {nm : Nm} {es : Nat} : apS nm es [] = .nils := rfl
theorem apF_nil {key es : Nat} {fr : Fr} : apF key es [] fr = fr := rfl
theorem Fr.ins_comm {q p : Nat} (x y : Blk) (h : q ≠ p) : ∀ f : Fr, (f.ins p y).ins q x = (f.ins q x).ins p y
  | [] => by
    simp only [Fr.ins, h, Ne.symm h, if_false]
    split
    · rename_i h1; rw [if_neg (by omega)]
    · rename_i h1; rw [if_pos (by omega)]
  | (k, b) :: r => by
    have hp : ¬ p = q := fun e => h e.symm
    by_cases h1 : p = k
    · subst h1
      by_cases h3 : q < p
      · simp [Fr.ins, h, h3, hp, show ¬ p < q by omega]
      · simp [Fr.ins, h, h3]
    · by_cases h2 : q = k
      · subst h2
        by_cases h3 : p < q
        · simp [Fr.ins, h, h3, hp, show ¬ q < p by omega]
        · simp [Fr.ins, h1, h3]
      · by_cases h3 : p < k
        · by_cases h4 : q < k
          · by_cases h5 : q < p
            · simp [Fr.ins, h, hp, h1, h2, h3, h4, h5, show ¬ p < q by omega]
            · simp [Fr.ins, h, hp, h1, h2, h3, h4, h5, show p < q by omega]
          · simp [Fr.ins, h, hp, h1, h2, h3, h4, show ¬ q < p by omega]
        · by_cases h4 : q < k
          · simp [Fr.ins, h, hp, h1, h2, h3, h4, show ¬ p < q by omega]
          · simp [Fr.ins, h1, h2, h3, h4, Fr.ins_comm x y h r]
section
variable {key es : Nat} {rows : List (List PV)} {fr : Fr} {H : Heap} {nm : Nm}
@[simp] theorem apF_get {k : Nat} (h : k ≠ key) : (apF key es rows fr).get k = fr.get k := by
 unfold apF; split
 ·rfl
 ·exact Fr.get_ins_other _ h _
@[simp] theorem apF_ins {k : Nat} {b : Blk} (h : k ≠ key) : (apF key es rows fr).ins k b = apF key es rows (fr.ins k b) := by
 unfold apF; split
 ·rfl
 ·exact Fr.ins_comm _ _ h _
theorem apF_self (h : rows ≠ []) : (apF key es rows fr).get key = some (.arr es rows 0 false) := by
 unfold apF; rw [if_neg h]; exact Fr.get_ins _ _ _
@[simp] theorem cellsO_apS : cellsO (apS nm es rows) = some [apS nm es rows] := by
 unfold apS; split <;> rfl
@[simp] theorem lowerCell_apS {l0 : Nat} (h : nm.1 ≤ l0) : lowerCell H l0 (apS nm es rows) = (apS nm es rows, H) := by
 unfold apS; split
 ·rfl
 ·simp [h]
@[simp] theorem lenD_apS {e : TypeId} : lenD (some (.slice e)) H (apS nm es rows) = some (rows.length : Int) := by
 unfold apS; split
 ·rename_i h; subst h; rfl
 ·rfl
@[simp] theorem allPure_apS {r : List GV} : allPure (apS nm es rows :: r) = none := by
 unfold apS; split <;> rfl
@[simp] theorem clean_apS_keep {l0 : Nat} (h : nm.1 ≤ l0) : clean H l0 (apS nm es rows) = apS nm es rows := by
 unfold apS; split
 ·rfl
 ·simp [h]
theorem apK_apS {l bytes : Nat} {r : List PV} {H' : Heap} (hg : rows = [] → H'.get (l, key) = none) (hg2 : rows ≠ [] → H'.get (l, key) = some (.arr es rows 0 false)) (hl : l < H'.length) (hb : (rows.length + 1) * bytes ≤ 1099511627776) (hk : key < tyBase) :
  apK l key (apS (l, key) es rows) es bytes [r] H' = some (apS (l, key) es (rows ++ [r]), H'.set (l, key) (.arr es (rows ++ [r]) 0 false)) := by
 unfold apS
 by_cases h : rows = []
 ·subst h
  have h1 := hg rfl
  have h2 : ¬ H'.length ≤ l := by omega
  have h3 : bytes ≤ 1099511627776 := by simpa using hb
  simp [h1, h2, h3]
 ·have h1 := hg2 h
  simp [h, h1, hb, lt_tyBase ▸ hk]
@[simp] theorem apK_0 {l bytes : Nat} {r : List PV} (hl : H.length = l) (hf : fr.get key = none) (hb : (rows.length + 1) * bytes ≤ 1099511627776) (hk : key < tyBase) :
  apK l key (apS (l, key) es rows) es bytes [r] (apF key es rows fr :: H) = some (apS (l, key) es (rows ++ [r]), apF key es (rows ++ [r]) fr :: H) := by
 subst hl
 rw [apK_apS (fun h => by subst h; simp [apF, hf]) (fun h => by simp [apF_self h]) (by simp) hb hk]
 simp [apF]
 split
 ·rfl
 ·rw [Fr.ins_ins]
@[simp] theorem apK_1 {l bytes : Nat} {r : List PV} {f0 : Fr} (hl : H.length = l) (hf : fr.get key = none) (hb : (rows.length + 1) * bytes ≤ 1099511627776) (hk : key < tyBase) :
  apK l key (apS (l, key) es rows) es bytes [r] (f0 :: apF key es rows fr :: H) = some (apS (l, key) es (rows ++ [r]), f0 :: apF key es (rows ++ [r]) fr :: H) := by
 subst hl
 rw [apK_apS (fun h => by subst h; simp [apF, hf]) (fun h => by simp [apF_self h]) (by simp; omega) hb hk]
 simp [apF]
 split
 ·rfl
 ·rw [Fr.ins_ins]
theorem cc_apS {l l0 : Nat} (hl : H.length = l) (h : l0 < l) : canon (clean (apF key es rows fr :: H) l0 (apS (l, key) es rows)) = .pure (.slice rows) := by
 subst hl
 unfold apS
 by_cases hr : rows = []
 ·subst hr; simp
 ·have : ¬ H.length ≤ l0 := by omega
  simp [hr, this, apF_self hr]
theorem clean1_apS {l l0 : Nat} {F : Fr} (hl : H.length = l) (h : l0 < l) (hF : rows ≠ [] → F.get key = some (.arr es rows 0 false)) : clean1 (F :: H) l0 (apS (l, key) es rows) = if rows = [] then .nils else .pure (.slice rows) := by
 subst hl
 unfold apS
 by_cases hr : rows = []
 ·subst hr; simp
 ·have : ¬ H.length ≤ l0 := by omega
  simp [hr, this, hF hr]
@[simp] theorem iaS_apS {i : Nat} (h : i < rows.length) : iaS (some (some es)) (apS nm es rows) (i : Int) = some (.eptr nm es rows.length i 0) := by
 unfold apS
 have hr : rows ≠ [] := fun e => by subst e; simp at h
 simp [hr, h]
end
end
section
def hdQ (h : Heap) (k : Fr → Heap → Prop) : Prop := match h with | fr :: H1 => k fr H1 | [] => False
@[simp] theorem hdQ_cons {fr : Fr} {H : Heap} {k : Fr → Heap → Prop} : hdQ (fr :: H) k = k fr H := .trans rfl rfl
def lpQ (x : Option Blk) (k : GLoop → Prop) : Prop := match x with | some (.loop l) => k l | _ => False
@[simp] theorem lpQ_loop {l : GLoop} {k : GLoop → Prop} : lpQ (some (.loop l)) k = k l := .trans rfl rfl
def rangeOf : Code → Option (Code × Code)
 | .seq a b => match rangeOf a with | some x => some x | none => rangeOf b
 | .cond _ a b => match rangeOf a with | some x => some x | none => rangeOf b
 | .block _ a => rangeOf a
 | .loop a => rangeOf a
 | .rangeFunc _ _ a b => some (a, b)
 | _ => none
def rgA (g : Func) : Code := ((rangeOf (g.body.getD .skip)).getD (.skip, .skip)).1
def rgB (g : Func) : Code := ((rangeOf (g.body.getD .skip)).getD (.skip, .skip)).2
section
variable (K : Ctx) (N : FuncId → Nat → List (Nat × Nat))
def roundEnd (nm : Nm) (R : GV × Heap → Prop) (e : GX) (st : GSt) : Prop :=
 hdQ st.h fun _ H2 => lpQ (Heap.get H2 nm) fun l2 =>
  R (match e with
   | .normal => (.pure (.bool true), Heap.set H2 nm (.loop { l2 with state := .ready, pending := none }))
   | e => (.pure (.bool false), Heap.set H2 nm (.loop { l2 with state := .done, pending := some e })))
def roundMid (nm : Nm) (l : GLoop) (R : GV × Heap → Prop) (e : GX) (st : GSt) : Prop :=
 e = .normal ∧ hdQ st.h fun fr H1 => lpQ (Heap.get H1 nm) fun l1 => l1.state = .ready ∧
  wp K N l.fn l.body ⟨st.s, fr :: Heap.set H1 nm (.loop { l1 with state := .busy }), l.nt⟩ (roundEnd nm R)
theorem ground_wp {nm : Nm} {args : List GV} {H : Heap} {l : GLoop} {s : Slots} {R : GV × Heap → Prop} (hl : H.get nm = some (.loop l)) (hr : l.state = .ready) (hp : putParams l.slots l.nt l.params (args.map canon) = some s)
  (ha : good K N l.fn l.assign = true) (hb : good K N l.fn l.body = true) (h : wp K N l.fn l.assign ⟨s, [] :: H, l.nt⟩ (roundMid K N nm l R)) : WPv (ground (geval K) nm args H) R := by
 obtain ⟨e, st, h1, rfl, h2⟩ := wp_sound K N l.fn l.assign h ha
 unfold hdQ at h2
 split at h2
 ·rename_i fr H1 hst
  unfold lpQ at h2
  split at h2
  ·rename_i l1 hg1
   obtain ⟨h3, h4⟩ := h2
   obtain ⟨e2, st2, h5, h6⟩ := wp_sound K N l.fn l.body h4 hb
   unfold roundEnd hdQ at h6
   split at h6
   ·rename_i fr2 H2 hst2
    unfold lpQ at h6
    split at h6
    ·rename_i l2 hg2
     refine ⟨_, ?_, h6⟩
     simp only [ground, hl, hr, if_true, hp, h1, hst, hg1, h3, ne_eq, not_true_eq_false, if_false, h5, hst2, hg2]
     cases e2 <;> rfl
    ·exact h6.elim
   ·exact h6.elim
  ·exact h2.elim
 ·exact h2.elim
def rangeEnd (nm : Nm) (st : GSt) (Q : GX → GSt → Prop) (H : Heap) : Prop :=
 lpQ (Heap.get H nm) fun l => l.state ≠ .busy ∧ Q (match l.pending with | none => .normal | some e => e) { st with h := Heap.set H nm (.loop { l with state := .exhausted }) }
theorem WP_range {fn : FuncId} {f : Operand} {ps : Array Tmp} {assign body : Code} {st : GSt} {Q : GX → GSt → Prop} {nm : Nm} {H1 H2 : Heap} {v : GV}
  (h1 : gnewV st.h (10000000 + firstRegion body) (.loop { slots := st.s, nt := st.nt, params := ps.toList, assign := assign, body := body, fn := fn, state := .ready, pending := none }) = some (nm, H1))
  (h2 : gcallF K (geval K) (ev st.s f) [.yield nm] 0 H1 = some (v, H2)) (h3 : rangeEnd nm st Q H2) : WP K N fn (.rangeFunc f ps assign body) st Q := fun _ => by
 rw [← gnew_loop] at h1
 rw [geval_eq]
 unfold rangeEnd lpQ at h3
 split at h3
 ·rename_i l hg
  obtain ⟨h4, h5⟩ := h3
  simp only [gbody, h1, h2, hg, h4, if_false]
  cases hp : l.pending with
  | none => rw [hp] at h5; exact ⟨_, _, rfl, h5⟩
  | some e => rw [hp] at h5; exact ⟨_, _, rfl, h5⟩
 ·exact h3.elim
end
end
section
def irow (n : Int) : List PV := [.int .i64 n]
@[simp] theorem KC_keep {f : Nat} : KC.keep f = keepL.contains f := .trans rfl rfl
attribute [simp] keepL
section
variable {f c : Nat} {H : Heap} {args : List GV} {p : PV}
theorem bor_c (hc : KC.cln f = false) (hb : KC.bor f = true) (hz : (frzVals H args).1.map canon = args) (hq : borBox args = some none) (hfl : flatP p = true) (hH : 0 < H.length)
  (h0 : ∀ H : Heap, 0 < H.length → gcall0 KC (geval KC) f args c H = some (.pure p, H)) : gcall KC (geval KC) f args c H = some (.pure p, H) := bor_flat KC hc hb hz hq hH h0 hfl
end
variable {c : Nat} {H : Heap}
def inB (x lo hi : Int) : Bool := decide (lo ≤ x) && decide (x ≤ hi)
theorem withinP_ok {x lo hi : Int} (hH : 0 < H.length) : gcall KC (geval KC) 100 [.pure (.int .i64 x), .pure (.int .i64 lo), .pure (.int .i64 hi)] c H = some (.pure (.bool (inB x lo hi)), H) := by
 refine WPv_eq (call_enter KC needT Tryz.func100 rfl rfl good100 rfl rfl rfl (by simp) hH ?_)
 by_cases h : lo ≤ x
 ·simp [h, inB, gleave_free]
 ·simp [h, inB, gleave_free]
theorem withinR_ok {x lo hi : Int} (hH : 0 < H.length) : gcall KC (geval KC) 102 [.pure (.int .i64 x), .pure (.int .i64 lo), .pure (.int .i64 hi)] c H = some (.pure (.bool (inB x lo hi)), H) := by
 refine WPv_eq (call_enter KC needT Tryz.func102 rfl rfl good102 rfl rfl rfl (by simp) hH ?_)
 by_cases h : lo ≤ x
 ·simp [h, inB, gleave_free]
 ·simp [h, inB, gleave_free]
theorem inB_iff {x lo hi : Int} : inB x lo hi = true ↔ lo ≤ x ∧ x ≤ hi := by simp [inB]
end

section
section
variable {K : Ctx} {fn : FuncId} {ty : TypeId} {pos : String} {af : Array Edge} {gu : Option (Nat × Bool)} {s : Slots} {H : Heap} {dst : Option Tmp}
@[simp] theorem tyKey_eq {t d : Nat} : tyKey t d = 1329227995784915872903807060280344576 + t * 4096 + d := .trans rfl rfl
@[simp] theorem tyName_eq {n : Nat} : tyName n = if n < 1329227995784915872903807060280344576 then none else some ((n - 1329227995784915872903807060280344576) / 4096) := .trans rfl rfl
def newBoxT (H : Heap) (t d : Nat) (x : Option (List GV)) : Option (GV × Heap) := match x with | some cs => rn (gnewT H (H.length - 1) t d (.box cs)) (fun nm => .bptr nm 0) | none => none
@[simp] theorem newBoxT_some {t d : Nat} {cs : List GV} : newBoxT H t d (some cs) = rn (gnewT H (H.length - 1) t d (.box cs)) (fun nm => .bptr nm 0) := .trans rfl rfl
@[simp] theorem gop_allocT {d : Nat} {t : TypeId} (ht : K.typ t = true) : gop K fn ⟨some d, .alloc t, ty, pos, af, gu⟩ s H = newBoxT H t d (cellsO' (tzero K.P t)) := by
 simp only [gop]
 cases h : tzero K.P t with
 | none => rfl
 | some z =>
  simp only [cellsO'_some, newBoxT]
  cases cellsO z with
  | none => rfl
  | some cs =>
   simp only [gnewE, ht, if_true]
   cases gnewT H (H.length - 1) t d (.box cs) with
   | none => rfl
   | some x => rfl
@[simp] theorem gnewT_cons {fr : Fr} {t d : Nat} {b : Blk} : gnewT (fr :: H) H.length t d b = if (fr.get (tyKey t d)).isSome then none else if tyName (tyKey t d) = some t then some ((H.length, tyKey t d), fr.ins (tyKey t d) b :: H) else none := by
 unfold gnewT
 simp only [List.length_cons]
 rw [if_neg (by omega)]
 simp only [Heap.get, Heap.set, if_true]
 cases fr.get (tyKey t d) <;> simp
@[simp] theorem gop_sliceData {x : Operand} {ts : Array TypeId} : gop K fn ⟨dst, .call ⟨.builtin .unsafeSliceData, #[x], ts⟩, ty, pos, af, gu⟩ s H =
  (match ev s x with | .hdr nm es top 0 _ => if 0 < top then some (.eptr nm es top 0 0, H) else none | _ => none) := by
 simp only [gop]; rfl
@[simp] theorem gop_unsafeString {x y : Operand} {pt it : TypeId} : gop K fn ⟨dst, .call ⟨.builtin .unsafeString, #[x, y], #[pt, it]⟩, ty, pos, af, gu⟩ s H = gunsafeStr K pt H (ev s x) (ev s y) := by
 simp only [gop]
end
def brow (b : UInt8) : List PV := [.int .u8 b.toNat]
theorem bytesOf_brow : ∀ l : List UInt8, bytesOf (l.map brow) = some l
 | [] => rfl
 | b :: l => by
  have h := b.toNat_lt
  have h1 : (0 : Int) ≤ b.toNat ∧ (b.toNat : Int) < 256 := by omega
  simp only [List.map_cons, brow, bytesOf]
  rw [if_pos h1]
  rw [bytesOf_brow l]
  simp
theorem brow_ne {l : List UInt8} : l.map brow = [] ↔ l = [] := List.map_eq_nil_iff
structure IsBld (ka : Nat) (H : Heap) (nm : Nm) (l : List UInt8) : Prop where
 lt : nm.1 < H.length
 ne : nm.2 ≠ ka
 box : ∃ a, (a = .pure .nilp ∨ a = .bptr nm 0) ∧ H.get nm = some (.box [a, apS (nm.1, ka) 1 (l.map brow)])
 arr : l ≠ [] → H.get (nm.1, ka) = some (.arr 1 (l.map brow) 0 false)
 none : l = [] → H.get (nm.1, ka) = none
def setB (ka : Nat) (H : Heap) (nm : Nm) (l : List UInt8) : Heap := if l = [] then H.set nm (.box [.bptr nm 0, .nils]) else (H.set nm (.box [.bptr nm 0, apS (nm.1, ka) 1 (l.map brow)])).set (nm.1, ka) (.arr 1 (l.map brow) 0 false)
theorem Heap.set_comm {n m : Nm} {x y : Blk} (h : n ≠ m) : ∀ {H : Heap}, (H.set n x).set m y = (H.set m y).set n x
 | [] => rfl
 | fr :: H => by
  by_cases e1 : n.1 = H.length
  ·by_cases e2 : m.1 = H.length
   ·have : n.2 ≠ m.2 := fun e => h (Prod.ext (e1.trans e2.symm) e)
    simp [e1, e2, Fr.ins_comm _ _ this.symm]
   ·simp [e1, e2]
  ·by_cases e2 : m.1 = H.length
   ·simp [e1, e2]
   ·simp [e1, e2, Heap.length_set, Heap.set_comm h (H := H)]
section
variable {ka : Nat} {H : Heap} {nm : Nm} {l l' : List UInt8}
theorem IsBld.nm_ne (h : IsBld ka H nm l) : nm ≠ (nm.1, ka) := fun e => h.ne (congrArg Prod.snd e)
@[simp] theorem setB_length : (setB ka H nm l).length = H.length := by unfold setB; split <;> simp [Heap.length_set]
theorem IsBld.up {fr : Fr} (h : IsBld ka H nm l) : IsBld ka (fr :: H) nm l := by
 have hne : ¬ nm.1 = H.length := by have := h.lt; omega
 obtain ⟨a, h1, h2⟩ := h.box
 refine ⟨by simp; have := h.lt; omega, h.ne, ⟨a, h1, by simp [hne, h2]⟩, fun hl => by simp [hne, h.arr hl], fun hl => by simp [hne, h.none hl]⟩
theorem setB_up {fr : Fr} (h : nm.1 < H.length) : setB ka (fr :: H) nm l = fr :: setB ka H nm l := by
 have hne : ¬ nm.1 = H.length := by omega
 unfold setB
 split <;> simp [hne, Heap.length_set]
theorem IsBld.set (h : IsBld ka H nm l) (hl : l = [] ∨ l' ≠ []) : IsBld ka (setB ka H nm l') nm l' := by
 have hn := h.nm_ne
 refine ⟨by rw [setB_length]; exact h.lt, h.ne, ⟨.bptr nm 0, .inr rfl, ?_⟩, fun h' => ?_, fun h' => ?_⟩
 ·unfold setB
  split
  ·rename_i e; subst e; rw [Heap.get_set _ h.lt]; rfl
  ·rw [Heap.get_set_other _ hn, Heap.get_set _ h.lt]
 ·unfold setB
  rw [if_neg h', Heap.get_set _ (by rw [Heap.length_set]; exact h.lt)]
 ·unfold setB
  rw [if_pos h', Heap.get_set_other _ (Ne.symm hn)]
  rcases hl with hl | hl
  ·exact h.none hl
  ·exact absurd h' hl
theorem setB_setB (h : IsBld ka H nm l) {l1 l2 : List UInt8} (h2 : l1 = [] ∨ l2 ≠ []) : setB ka (setB ka H nm l1) nm l2 = setB ka H nm l2 := by
 have hn := h.nm_ne
 unfold setB
 by_cases e1 : l1 = []
 ·subst e1
  simp only [if_true]
  split
  ·rw [Heap.set_set]
  ·rw [Heap.set_set]
 ·have e2 : l2 ≠ [] := by rcases h2 with h2 | h2; exact absurd h2 e1; exact h2
  rw [if_neg e1, if_neg e2, if_neg e2]
  rw [Heap.set_comm hn, Heap.set_set, Heap.set_comm (Ne.symm hn), Heap.set_set]
end
end
section
variable {c : Nat} {H : Heap}
theorem gop_appendT' {K : Ctx} {fn : FuncId} {ty : TypeId} {pos : String} {af : Array Edge} {gu : Option (Nat × Bool)} {s : Slots} {d : Nat} {x y : Operand} {t t2 : TypeId} (hs : spreads K.P (some t2) = true) (hr : K.row fn d = none) :
  gop K fn ⟨some d, .call ⟨.builtin .append, #[x, y], #[t, t2]⟩, ty, pos, af, gu⟩ s H = apV (upLevel H s (K.up fn d)) fun l => gappend K H l d t (ev s x) (ev s y) := by
 show (if spreads K.P (some t2) = true then (match K.row fn d with | none => (match upLevel H s (K.up fn d) with | some l => gappend K H l d t (ev s x) (ev s y) | none => none) | some key => (match upBox s (K.up fn d) with | some bn => gappendR K H bn key t (ev s x) (ev s y) | none => none)) else none) = _
 rw [if_pos hs, hr]
 cases upLevel H s (K.up fn d) <;> rfl
@[simp] theorem gstr_add {a b : List UInt8} : gstr .add a b = if a.length + b.length ≤ 4611686018427387904 then some (.str (a ++ b)) else none := .trans rfl rfl
@[simp] theorem gstr_eql {a b : List UInt8} : gstr .eql a b = some (.bool (a == b)) := .trans rfl rfl
@[simp] theorem gstr_neq {a b : List UInt8} : gstr .neq a b = some (.bool (!(a == b))) := .trans rfl rfl
noncomputable def kA : Nat := hid (tyKey 5 14)
theorem kA_def : kA = tyKey 5 14 := by rw [kA, hid_eq]
theorem kA_name : tyName kA = some 5 := by rw [kA_def]; simp
abbrev Bl (H : Heap) (nm : Nm) (l : List UInt8) : Prop := IsBld kA H nm l ∧ tyName nm.2 = some 105
theorem app_bld {G : Heap} {nm : Nm} {l s : List UInt8} (h : IsBld kA G nm l) (hs : s ≠ []) (hn : l.length + s.length ≤ 1099511627776) :
  gappend KC G nm.1 14 103 (apS (nm.1, kA) 1 (l.map brow)) (.pure (.str s)) = some (apS (nm.1, kA) 1 ((l ++ s).map brow), G.set (nm.1, kA) (.arr 1 ((l ++ s).map brow) 0 false)) := by
 have ht : telem KC.P 103 = some 5 := by kernel_rfl
 have h1 : tsize KC.P 5 = some 1 := by kernel_rfl
 have h2 : tbytes KC.P 5 = some 1 := by kernel_rfl
 have h3 : zsize KC.P 5 = some 1 := by kernel_rfl
 have h4 : KC.typ 5 = true := by kernel_rfl
 have hb : ((s.map brow).all fun r => r.length == 1) = true := by simp [brow]
 have hne : (s.map brow).isEmpty = false := by cases s with | nil => exact absurd rfl hs | cons _ _ => rfl
 have hlen : (s.map brow).length = s.length := List.length_map _
 have hx : gelems G (.pure (.str s)) = some (s.map brow, G) := rfl
 have hap : ∀ r : List UInt8, r ≠ [] → apS (nm.1, kA) 1 (r.map brow) = .hdr (nm.1, kA) 1 r.length 0 r.length := fun r hr => by
  unfold apS
  rw [if_neg (fun e => hr (brow_ne.1 e)), List.length_map]
 have hls : l ++ s ≠ [] := by simp [hs]
 unfold gappend
 simp only [ht, h1, h2, h3, hx, hb, decide_true, Bool.and_true, Bool.true_and, Nat.lt_irrefl, Nat.zero_lt_one, hne, hlen, if_true, Bool.false_eq_true, if_false, hap _ hls, show (1 : Nat) ≤ 1048576 from by decide]
 by_cases hl : l = []
 ·subst hl
  simp only [List.map_nil, apS_nil, List.nil_append]
  rw [if_pos (by simp at hn; omega)]
  simp only [gnewE, h4, if_true]
  have hf := h.none rfl
  have hk : gnewT G nm.1 5 14 (.arr 1 (s.map brow) 0 false) = some ((nm.1, kA), G.set (nm.1, kA) (.arr 1 (s.map brow) 0 false)) := by
   have hlt := h.lt
   unfold gnewT
   have hk2 : tyName kA = some 5 := kA_name
   rw [kA_def] at hf hk2 ⊢
   have hk3 : ¬ G.length ≤ nm.1 := by omega
   simp only [hk3, hf, hk2, if_true, if_false, Option.isSome_none, Bool.false_eq_true]
  rw [hk]
 ·rw [hap _ hl]
  simp only [h.arr hl]
  have hnm : nmOk KC 5 (nm.1, kA) = true := by
   unfold nmOk
   rw [h4, if_pos rfl, kA_name]
   rfl
  simp [hnm, hn]
def chk (a : GV) (G : Heap) (nm : Nm) (x : GV) : Heap := match a with | .bptr _ _ => G | _ => G.set nm (.box [.bptr nm 0, x])
theorem copy_ok {G : Heap} {nm : Nm} {a : GV} {x : GV} (hlt : nm.1 < G.length) (ha : a = .pure .nilp ∨ a = .bptr nm 0) (hg : G.get nm = some (.box [a, x])) (hT : tyName nm.2 = some 105) :
  gcall KC (geval KC) 90 [.bptr nm 0] c G = some (.pure (.tuple []), chk a G nm x) := by
 refine (gcall_ext KC (e := extCopy 105) (by kernel_rfl) (by rfl) (Nat.lt_of_le_of_lt (Nat.zero_le _) hlt)).trans ?_
 unfold extCopy
 rcases ha with rfl | rfl
 ·simp [hg, hT, chk, -tyName_eq]
 ·simp [hg, chk]
theorem IsBld.chk {ka : Nat} {nm : Nm} {l : List UInt8} (h : IsBld ka H nm l) : IsBld ka (H.set nm (.box [.bptr nm 0, apS (nm.1, ka) 1 (l.map brow)])) nm l :=
 ⟨by rw [Heap.length_set]; exact h.lt, h.ne, ⟨_, .inr rfl, Heap.get_set _ h.lt⟩, fun hl => by rw [Heap.get_set_other _ (Ne.symm h.nm_ne)]; exact h.arr hl,
  fun hl => by rw [Heap.get_set_other _ (Ne.symm h.nm_ne)]; exact h.none hl⟩
theorem write_ok {nm : Nm} {l s : List UInt8} (hB : Bl H nm l) (hs : s ≠ []) (hn : l.length + s.length ≤ 1099511627776) :
  gcall KC (geval KC) 50 [.bptr nm 0, .pure (.str s)] c H = some (.pure (.tuple [.int .i64 s.length, .nili]), setB kA H nm (l ++ s)) := by
 have hl := hB.1.lt
 have hne : ¬ nm.1 = H.length := by omega
 have hlt : nm.1 < H.length + 1 := by omega
 obtain ⟨a, ha, hg⟩ := hB.1.box
 have hls : l ++ s ≠ [] := by simp [hs]
 have hnn := hB.1.nm_ne
 have hni : ofConst Value.nilIface = .pure .nili := rfl
 have key : ∀ G : Heap, G.length = H.length → G.get nm = some (.box [.bptr nm 0, apS (nm.1, kA) 1 (l.map brow)]) → IsBld kA ([] :: G) nm l → (G.set (nm.1, kA) (.arr 1 ((l ++ s).map brow) 0 false)).set nm (.box [.bptr nm 0, apS (nm.1, kA) 1 ((l ++ s).map brow)]) = setB kA H nm (l ++ s) →
   (gcall KC (geval KC) 90 [.bptr nm 0] 7 ([] :: H) = some (.pure (.tuple []), [] :: G)) →
   gcall KC (geval KC) 50 [.bptr nm 0, .pure (.str s)] c H = some (.pure (.tuple [.int .i64 s.length, .nili]), setB kA H nm (l ++ s)) := by
  intro G hGl hGg hGb hGe hc
  have hne2 : ¬ nm.1 = G.length := by omega
  have hlt2 : nm.1 < G.length + 1 := by omega
  have hnn2 : ¬ nm = (nm.1, kA) := hnn
  have hap := app_bld hGb hs hn
  refine WPv_eq (call_enter KC needT Tryz.func50 rfl rfl good50 rfl rfl rfl (by simp) (by omega) ?_)
  simp [hne, hlt, gop_appendT', hc, hGg, hne2, hlt2, hni]
  rw [hap]
  simp [hne, hlt, gop_appendT', hc, hGg, hne2, hlt2, hni, Heap.get_set_other _ hnn, gleave_free]
  simpa using hGe
 rcases ha with rfl | rfl
 ·refine key (H.set nm (.box [.bptr nm 0, apS (nm.1, kA) 1 (l.map brow)])) (Heap.length_set ..) (Heap.get_set _ hl) hB.1.chk.up ?_ ?_
  ·unfold setB
   rw [if_neg hls, Heap.set_comm (Ne.symm hnn), Heap.set_set]
  ·have := copy_ok (c := 7) (G := [] :: H) hlt (.inl rfl) (by simpa [hne] using hg) hB.2
   rw [this]
   simp [chk, hne]
 ·refine key H rfl hg hB.1.up ?_ ?_
  ·unfold setB
   rw [if_neg hls, Heap.set_comm (Ne.symm hnn)]
  ·have := copy_ok (c := 7) (G := [] :: H) hlt (.inr rfl) (by simpa [hne] using hg) hB.2
   rw [this]
   rfl
theorem Bl.set {nm : Nm} {l l' : List UInt8} (h : Bl H nm l) (hl : l' ≠ []) : Bl (setB kA H nm l') nm l' := ⟨h.1.set (.inr hl), h.2⟩
theorem Bl.up {fr : Fr} {nm : Nm} {l : List UInt8} (h : Bl H nm l) : Bl (fr :: H) nm l := ⟨h.1.up, h.2⟩
theorem opPure_us {K : Ctx} {fn : FuncId} {dst : Option Tmp} {xs : Array Operand} {ts : Array TypeId} {ty : TypeId} {pos : String} {af : Array Edge} {gu : Option (Nat × Bool)} : opPure K fn ⟨dst, .call ⟨.builtin .unsafeString, xs, ts⟩, ty, pos, af, gu⟩ = false := rfl
theorem string_ok {nm : Nm} {l : List UInt8} (hB : Bl H nm l) (hs : l ≠ []) (hn : l.length ≤ 1099511627776) :
  gcall KC (geval KC) 52 [.bptr nm 0] c H = some (.pure (.str l), H.set (nm.1, kA) .gone) := by
 have hl := hB.1.lt
 have hne : ¬ nm.1 = H.length := by omega
 have hlt : nm.1 < H.length + 1 := by omega
 obtain ⟨a, ha, hg⟩ := hB.1.box
 have harr := hB.1.arr hs
 have hap : apS (nm.1, kA) 1 (l.map brow) = .hdr (nm.1, kA) 1 l.length 0 l.length := by
  unfold apS
  rw [if_neg (fun e => hs (brow_ne.1 e)), List.length_map]
 rw [hap] at hg
 have hp : 0 < l.length := List.length_pos_iff.2 hs
 refine WPv_eq (call_enter KC needT Tryz.func52 rfl rfl good52 rfl rfl rfl (by simp) (by omega) ?_)
 have hu : gunsafeStr KC 162 ([] :: H) (.eptr (nm.1, kA) 1 l.length 0 0) (.pure (.int .i64 l.length)) = some (.pure (.str l), [] :: H.set (nm.1, kA) .gone) := by
  have h1 : KC.P.underlying 162 = some (.pointer 5) := by kernel_rfl
  have h2 : tsize KC.P 5 = some 1 := by kernel_rfl
  have hg2 : Heap.get ([] :: H) (nm.1, kA) = some (.arr 1 (l.map brow) 0 false) := by simp [hne, harr]
  have htk : (l.map brow).take ((l.length : Int).toNat) = l.map brow := by rw [Int.toNat_natCast]; exact List.take_of_length_le (by simp)
  unfold gunsafeStr
  simp only [h1, hg2]
  rw [if_pos ⟨by omega, by simp, by omega, by simp, by omega, kA_name, h2⟩, htk, bytesOf_brow]
  simp [hne]
 simp [hne, hg, hp, hu, opPure_us, gleave_free]
end
section
variable {c : Nat} {H : Heap}
theorem itoa_ok {n : Int} (h0 : -9223372036854775808 ≤ n) (h1 : n ≤ 9223372036854775807) (hH : 0 < H.length) : gcall KC (geval KC) 51 [.pure (.int .i64 n)] c H = some (.pure (.str (itoaL n)), H) := by
 refine (gcall_ext KC (e := extItoa) (by kernel_rfl) (by rfl) hH).trans ?_
 unfold extItoa
 simp [h0, h1]
noncomputable def kB : Nat := hid (tyKey 105 5)
theorem kB_def : kB = tyKey 105 5 := by rw [kB, hid_eq]
theorem kB_name : tyName kB = some 105 := by rw [kB_def]; simp
def setF (F : Fr) (ka kb : Nat) (L : Nat) (l : List UInt8) : Fr := if l = [] then F.ins kb (.box [.bptr (L, kb) 0, .nils]) else (F.ins kb (.box [.bptr (L, kb) 0, apS (L, ka) 1 (l.map brow)])).ins ka (.arr 1 (l.map brow) 0 false)
theorem setB_top {ka kb : Nat} {F : Fr} {l : List UInt8} : setB ka (F :: H) (H.length, kb) l = setF F ka kb H.length l :: H := by
 unfold setB setF
 split <;> simp
theorem setF_get {ka kb k L : Nat} {F : Fr} {l : List UInt8} (h1 : k ≠ ka) (h2 : k ≠ kb) : (setF F ka kb L l).get k = F.get k := by
 unfold setF
 split
 ·rw [Fr.get_ins_other _ h2]
 ·rw [Fr.get_ins_other _ h1, Fr.get_ins_other _ h2]
theorem Bl.setF {kb : Nat} {F : Fr} {l l' : List UInt8} (h : Bl (F :: H) (H.length, kb) l) (hl : l' ≠ []) : Bl (Go.Gh.setF F kA kb H.length l' :: H) (H.length, kb) l' := by
 have := h.set hl
 rwa [setB_top] at this
theorem setF_setF {kb : Nat} {F : Fr} {l l1 l2 : List UInt8} (h : Bl (F :: H) (H.length, kb) l) (h2 : l2 ≠ []) : Go.Gh.setF (Go.Gh.setF F kA kb H.length l1) kA kb H.length l2 = Go.Gh.setF F kA kb H.length l2 := by
 have := setB_setB h.1 (l1 := l1) (l2 := l2) (.inr h2)
 rw [setB_top, setB_top, setB_top] at this
 exact (List.cons.inj this).1
theorem digs_len : ∀ f u, (digs f u).length ≤ f
 | 0, u => by simp [digs]
 | f + 1, u => by
  rw [digs]
  split
  ·simp
  ·have := digs_len f (u / 10)
   simp
   omega
theorem itoaL_len (n : Int) : (itoaL n).length ≤ 21 := by
 unfold itoaL
 split
 ·have := digs_len 20 n.natAbs
  simp
  omega
 ·have := digs_len 20 n.toNat
  omega
theorem flat_len {α : Type} {g : α → List UInt8} {m : Nat} (h : ∀ x, (g x).length ≤ m) : ∀ l : List α, (l.flatMap g).length ≤ m * l.length
 | [] => by simp
 | x :: l => by
  have h1 := flat_len h l
  have h2 := h x
  simp only [List.flatMap_cons, List.length_append, List.length_cons, Nat.mul_add]
  omega
noncomputable def numV : List UInt8 → Option Int := hid fun w => match Lib.atoiAll w with
 | .ok n => if 0 ≤ n ∧ w.length ≤ 4 ∧ itoaL n = w then some n else none
 | _ => none
theorem numV_def (w : List UInt8) : numV w = (match Lib.atoiAll w with
 | .ok n => if 0 ≤ n ∧ w.length ≤ 4 ∧ itoaL n = w then some n else none
 | _ => none) := by rw [numV, hid_eq]
def srow (w : List UInt8) : List PV := [.str w]
theorem atoi_rng {w : List UInt8} {n : Int} (h : Lib.atoiAll w = .ok n) : -9223372036854775808 ≤ n ∧ n ≤ 9223372036854775807 := by
 unfold Lib.atoiAll at h
 split at h
 ·cases h
 ·rename_i c r
  simp only at h
  split at h
  ·cases h
  ·cases h
  ·split at h
   ·cases h
   ·rename_i h1
    split at h
    ·cases h
    ·rename_i h2
     injection h with h
     subst h
     split <;> omega
theorem splitL_len (c : UInt8) : ∀ l, (splitL c l).length ≤ l.length + 1
 | [] => by simp [splitL]
 | b :: r => by
  have := splitL_len c r
  rw [splitL]
  split
  ·simp; omega
  ·split
   ·rename_i x l h
    rw [h] at this
    simp at this ⊢
    omega
   ·simp
theorem splitL_mem (c : UInt8) : ∀ l, ∀ w ∈ splitL c l, w.length ≤ l.length
 | [], w, h => by simp [splitL] at h; subst h; simp
 | b :: r, w, h => by
  have ih := splitL_mem c r
  rw [splitL] at h
  split at h
  ·rcases List.mem_cons.1 h with rfl | h
   ·simp
   ·have := ih w h; simp; omega
  ·split at h
   ·rename_i x l hl
    rw [hl] at ih
    rcases List.mem_cons.1 h with rfl | h
    ·have := ih x List.mem_cons_self; simp; omega
    ·have := ih w (List.mem_cons_of_mem _ h); simp; omega
   ·simp at h; subst h; simp
theorem split_ok {s : List UInt8} {b : UInt8} (hs : s.length < 4294967281) (hH : 0 < H.length) : gcall KC (geval KC) 55 [.pure (.str s), .pure (.str [b])] c H = some (.pure (.slice ((splitL b s).map srow)), H) := by
 refine (gcall_ext KC (e := extSplit) (by kernel_rfl) (by rfl) hH).trans ?_
 unfold extSplit
 simp only [hs, if_true]
 rfl
end
def joinL (c : UInt8) : List (List UInt8) → List UInt8
 | [] => []
 | [x] => x
 | x :: y :: r => x ++ c :: joinL c (y :: r)
theorem joinL_cons {c : UInt8} {x : List UInt8} {l : List (List UInt8)} (h : l ≠ []) : joinL c (x :: l) = x ++ c :: joinL c l := by
 cases l with
 | nil => exact absurd rfl h
 | cons y r => rfl
theorem join_split (c : UInt8) : ∀ l, joinL c (splitL c l) = l
 | [] => rfl
 | b :: r => by
  have ih := join_split c r
  rw [splitL]
  split
  ·rename_i h
   subst h
   rw [joinL_cons (splitL_ne _ _), ih]
   rfl
  ·have hne := splitL_ne c r
   split
   ·rename_i x l hl
    rw [hl] at ih
    cases l with
    | nil => simp only [joinL] at ih ⊢; rw [ih]
    | cons y r2 => simp only [joinL] at ih ⊢; rw [List.cons_append, ih]
   ·rename_i hl; exact absurd hl hne
theorem split_word {c : UInt8} : ∀ {w : List UInt8}, c ∉ w → splitL c w = [w]
 | [], _ => rfl
 | b :: w, h => by
  have hb : ¬ b = c := fun e => h (by rw [e]; exact List.mem_cons_self)
  rw [splitL, if_neg hb, split_word (w := w) fun e => h (List.mem_cons_of_mem _ e)]
theorem split_app {c : UInt8} : ∀ {w : List UInt8} (r : List UInt8), c ∉ w → splitL c (w ++ c :: r) = w :: splitL c r
 | [], r, _ => by rw [List.nil_append, splitL, if_pos rfl]
 | b :: w, r, h => by
  have hb : ¬ b = c := fun e => h (by rw [e]; exact List.mem_cons_self)
  rw [List.cons_append, splitL, if_neg hb, split_app r fun e => h (List.mem_cons_of_mem _ e)]
theorem join_rows {c : UInt8} : ∀ (rows : List (List UInt8)), joinL c (rows ++ [[]]) = rows.flatMap fun w => w ++ [c]
 | [] => rfl
 | w :: r => by
  rw [List.cons_append, joinL_cons (by simp), join_rows r, List.flatMap_cons, List.append_assoc]
  rfl
theorem digs_mem : ∀ (f u : Nat), ∀ b ∈ digs f u, 48 ≤ b.toNat ∧ b.toNat ≤ 57
 | 0, u, b, h => by simp [digs] at h
 | f + 1, u, b, h => by
  rw [digs] at h
  split at h
  ·rw [List.mem_singleton] at h
   subst h
   rw [UInt8.toNat_ofNat']
   omega
  ·rcases List.mem_append.1 h with h | h
   ·exact digs_mem f _ b h
   ·rw [List.mem_singleton] at h
    subst h
    rw [UInt8.toNat_ofNat']
    omega
theorem itoa_mem {n : Int} (h0 : 0 ≤ n) : ∀ b ∈ itoaL n, 48 ≤ b.toNat ∧ b.toNat ≤ 57 := by
 intro b h
 unfold itoaL at h
 rw [if_neg (by omega)] at h
 exact digs_mem _ _ b h
theorem digs_short : ∀ (f u k : Nat), u < 10 ^ k → 1 ≤ k → (digs f u).length ≤ k
 | 0, u, k, h, _ => by simp [digs]
 | f + 1, u, k, h, hk => by
  rw [digs]
  split
  ·simp; exact hk
  ·rename_i h1
   have hk2 : 2 ≤ k := by
    rcases Nat.lt_or_ge k 2 with h2 | h2
    ·have : k = 1 := by omega
     subst this
     omega
    ·exact h2
   obtain ⟨j, rfl⟩ : ∃ j, k = j + 1 := ⟨k - 1, by omega⟩
   have := digs_short f (u / 10) j (by rw [Nat.pow_succ] at h; omega) (by omega)
   simp
   exact this
theorem itoa_short {n : Int} (h0 : 0 ≤ n) (h1 : n < 10000) : (itoaL n).length ≤ 4 := by
 unfold itoaL
 rw [if_neg (by omega)]
 exact digs_short _ _ 4 (by omega) (by omega)
theorem digs_ne : ∀ (f u : Nat), 0 < f → digs f u ≠ []
 | f + 1, u, _ => by
  rw [digs]
  split <;> simp
theorem parse_app : ∀ (l : List UInt8) (acc u : Nat) (d : Nat), Lib.parseUint10 acc l = .ok u → u < 1000000000 → d < 10 → Lib.parseUint10 acc (l ++ [UInt8.ofNat (48 + d)]) = .ok (u * 10 + d)
 | [], acc, u, d, h, hu, hd => by
  simp only [Lib.parseUint10] at h
  injection h with h
  subst h
  have hb : (UInt8.ofNat (48 + d)).toNat = 48 + d := by rw [UInt8.toNat_ofNat']; omega
  rw [List.nil_append, Lib.parseUint10, hb, if_pos (by omega), if_neg (by omega), if_neg (by omega)]
  have : 48 + d - 48 = d := by omega
  rw [this, Lib.parseUint10]
 | c :: r, acc, u, d, h, hu, hd => by
  rw [Lib.parseUint10] at h
  rw [List.cons_append, Lib.parseUint10]
  split at h
  ·rename_i h1
   rw [if_pos h1]
   split at h
   ·cases h
   ·rename_i h2
    rw [if_neg h2]
    split at h
    ·cases h
    ·rename_i h3
     rw [if_neg h3]
     exact parse_app r _ u d h hu hd
  ·cases h
theorem parse_digs : ∀ (f u : Nat), u < 10 ^ f → u < 1000000000 → 0 < f → Lib.parseUint10 0 (digs f u) = .ok u
 | f + 1, u, h, hu, _ => by
  rw [digs]
  split
  ·rename_i h1
   have := parse_app [] 0 0 u rfl (by omega) h1
   rw [List.nil_append] at this
   rw [this]
   congr 1
   omega
  ·rename_i h1
   have hf : 0 < f := by
    rcases Nat.eq_zero_or_pos f with e | e
    ·subst e; simp at h; omega
    ·exact e
   have ih := parse_digs f (u / 10) (by rw [Nat.pow_succ] at h; omega) (by omega) hf
   rw [parse_app _ 0 (u / 10) (u % 10) ih (by omega) (by omega)]
   congr 1
   omega
theorem atoi_itoa {n : Int} (h0 : 0 ≤ n) (h1 : n < 1000000) : Lib.atoiAll (itoaL n) = .ok n := by
 have hm := itoa_mem h0
 unfold itoaL at hm ⊢
 rw [if_neg (by omega)] at hm ⊢
 have hp := parse_digs 20 n.toNat (by omega) (by omega) (by omega)
 have hne := digs_ne 20 n.toNat (by omega)
 cases hd : digs 20 n.toNat with
 | nil => exact absurd hd hne
 | cons b r =>
  rw [hd] at hp hm
  have hb := hm b List.mem_cons_self
  unfold Lib.atoiAll
  simp only
  rw [if_neg (by omega)]
  unfold Lib.parseMag
  rw [if_neg (by simp), hp]
  simp only
  rw [if_neg (by omega), if_neg (by omega), if_neg (by omega)]
  congr 1
  omega
theorem numV_itoa {n : Int} (h0 : 0 ≤ n) (h1 : n < 10000) : numV (itoaL n) = some n := by
 rw [numV_def, atoi_itoa h0 (by omega)]
 have := itoa_short h0 h1
 simp only
 rw [if_pos ⟨h0, by omega, trivial⟩]
theorem numV_of {w : List UInt8} {n : Int} (h : numV w = some n) : itoaL n = w ∧ 0 ≤ n := by
 rw [numV_def] at h
 split at h
 ·split at h
  ·rename_i h1
   simp only [Option.some.injEq] at h
   subst h
   exact ⟨h1.2.2, h1.1⟩
  ·cases h
 ·cases h
def numD : Int → List UInt8 → Option Int
 | acc, [] => some acc
 | acc, b :: r => if b.toNat < 48 ∨ 57 < b.toNat then none else numD (10 * acc + ((b.toNat : Int) - 48)) r
def numR (w : List UInt8) : Option Int := if w.length < 1 ∨ 4 < w.length ∨ (w.head? = some 48 ∧ 1 < w.length) then none else numD 0 w
theorem numD_app : ∀ (a b : List UInt8) (acc : Int), numD acc (a ++ b) = (match numD acc a with | some v => numD v b | none => none)
 | [], b, acc => rfl
 | x :: a, b, acc => by
  rw [List.cons_append, numD, numD]
  split
  ·rfl
  ·exact numD_app a b _
theorem dig_toNat {d : Nat} (h : d < 10) : (UInt8.ofNat (48 + d)).toNat = 48 + d := by
 rw [UInt8.toNat_ofNat']; omega
theorem numD_digs : ∀ (f u : Nat), u < 10 ^ f → 0 < f → numD 0 (digs f u) = some (u : Int)
 | f + 1, u, h, _ => by
  rw [digs]
  split
  ·rename_i h1
   rw [numD, dig_toNat h1, if_neg (by omega), numD]
   congr 1
   omega
  ·rename_i h1
   have hf : 0 < f := by
    rcases Nat.eq_zero_or_pos f with e | e
    ·subst e; simp at h; omega
    ·exact e
   rw [numD_app, numD_digs f (u / 10) (by rw [Nat.pow_succ] at h; omega) hf]
   simp only
   rw [numD, dig_toNat (by omega), if_neg (by omega), numD]
   congr 1
   omega
theorem head_app {a b : List UInt8} (h : a ≠ []) : (a ++ b).head? = a.head? := by
 cases a with
 | nil => exact absurd rfl h
 | cons x r => rfl
theorem digs_head : ∀ (f u : Nat), u < 10 ^ f → 0 < f → (digs f u).head? = some 48 → u = 0
 | f + 1, u, h, _, hh => by
  rw [digs] at hh
  split at hh
  ·rename_i h1
   simp only [List.head?_cons, Option.some.injEq] at hh
   have := congrArg UInt8.toNat hh
   rw [dig_toNat h1] at this
   have e : (48 : UInt8).toNat = 48 := rfl
   omega
  ·rename_i h1
   have hf : 0 < f := by
    rcases Nat.eq_zero_or_pos f with e | e
    ·subst e; simp at h; omega
    ·exact e
   rw [head_app (digs_ne f _ hf)] at hh
   have := digs_head f (u / 10) (by rw [Nat.pow_succ] at h; omega) hf hh
   omega
theorem digs_len1 : ∀ (f : Nat), 0 < f → (digs f 0).length = 1
 | f + 1, _ => by rw [digs, if_pos (by omega)]; rfl
theorem numR_itoa {n : Int} (h0 : 0 ≤ n) (h1 : n ≤ 9223372036854775807) (hl : (itoaL n).length ≤ 4) : numR (itoaL n) = some n := by
 unfold itoaL at hl ⊢
 rw [if_neg (by omega)] at hl ⊢
 have hu : n.toNat < 10 ^ 20 := by omega
 have hne := digs_ne 20 n.toNat (by omega)
 unfold numR
 rw [if_neg, numD_digs 20 _ hu (by omega)]
 ·congr 1; omega
 ·intro h
  rcases h with h | h | ⟨h, h2⟩
  ·have := List.length_pos_iff.2 hne; omega
  ·omega
  ·have := digs_head 20 n.toNat hu (by omega) h
   rw [this, digs_len1 20 (by omega)] at h2
   omega
theorem digs_numD : ∀ (k : Nat) (w : List UInt8) (n : Int), w.length = k → 0 < k → (w.head? = some 48 → k = 1) → numD 0 w = some n → (∀ f, k ≤ f → digs f n.toNat = w) ∧ 0 ≤ n ∧ n < 10 ^ k ∧ (k ≠ 1 → 1 ≤ n)
 | 0, w, n, hk, h0, _, _ => absurd h0 (by omega)
 | k + 1, w, n, hk, _, hh, hn => by
  have hne : w ≠ [] := fun e => by rw [e] at hk; simp at hk
  obtain ⟨a, b, rfl⟩ : ∃ a b, w = a ++ [b] := ⟨w.dropLast, w.getLast hne, (List.dropLast_concat_getLast hne).symm⟩
  have hla : a.length = k := by simpa using hk
  rw [numD_app] at hn
  split at hn
  ·rename_i v hv
   rw [numD] at hn
   split at hn
   ·cases hn
   ·rename_i hb
    simp only [numD, Option.some.injEq] at hn
    obtain ⟨d, hd, hd2⟩ : ∃ d : Nat, b.toNat = 48 + d ∧ d < 10 := ⟨b.toNat - 48, by omega, by omega⟩
    have hbd : b = UInt8.ofNat (48 + d) := by
     apply UInt8.toNat_inj.1
     rw [dig_toNat hd2, hd]
    rcases Nat.eq_zero_or_pos k with e | e
    ·subst e
     obtain rfl : a = [] := List.length_eq_zero_iff.1 hla
     simp only [numD, Option.some.injEq] at hv
     subst hv
     have hnd : n = d := by omega
     refine ⟨fun f hf => ?_, by omega, by omega, fun h => absurd rfl h⟩
     obtain ⟨f, rfl⟩ : ∃ j, f = j + 1 := ⟨f - 1, by omega⟩
     have : n.toNat = d := by omega
     rw [digs, this, if_pos hd2, hbd]
     rfl
    ·have hane : a ≠ [] := fun e2 => by rw [e2] at hla; simp at hla; omega
     have hh2 : a.head? = some 48 → k = 1 := fun h => by
      have : (a ++ [b]).head? = some 48 := by rw [head_app hane]; exact h
      have := hh this
      omega
     obtain ⟨g1, g2, g3, g4⟩ := digs_numD k a v hla e hh2 hv
     have hv1 : 1 ≤ v := by
      by_cases hk1 : k = 1
      ·rcases Int.lt_or_le v 1 with h | h
       ·have hv0 : v = 0 := by omega
        have := g1 1 (by omega)
        rw [hv0] at this
        have hd0 : digs 1 (0 : Int).toNat = [48] := rfl
        rw [hd0] at this
        have hx : (a ++ [b]).head? = some 48 := by rw [← this]; rfl
        have := hh hx
        omega
       ·exact h
      ·exact g4 hk1
     have hnv : n = 10 * v + d := by omega
     refine ⟨fun f hf => ?_, by omega, by rw [Int.pow_succ]; omega, fun _ => by omega⟩
     obtain ⟨f, rfl⟩ : ∃ j, f = j + 1 := ⟨f - 1, by omega⟩
     have e1 : n.toNat / 10 = v.toNat := by omega
     have e2 : n.toNat % 10 = d := by omega
     rw [digs, if_neg (by omega), e1, e2, g1 f (by omega), hbd]
  ·cases hn
theorem numR_eq (w : List UInt8) : numR w = numV w := by
 cases hv : numV w with
 | some n =>
  obtain ⟨h1, h2⟩ := numV_of hv
  rw [numV_def] at hv
  split at hv
  ·rename_i m hm
   split at hv
   ·rename_i h3
    simp only [Option.some.injEq] at hv
    subst hv
    have hr := atoi_rng hm
    rw [← h1] at h3 ⊢
    exact numR_itoa h2 hr.2 h3.2.1
   ·cases hv
  ·cases hv
 | none =>
  cases hr : numR w with
  | none => rfl
  | some n =>
   exfalso
   unfold numR at hr
   split at hr
   ·cases hr
   ·rename_i h
    obtain ⟨g1, g2, g3, g4⟩ := digs_numD w.length w n rfl (by omega) (fun hh => by
     rcases Nat.lt_or_ge 1 w.length with h2 | h2
     ·exact absurd (.inr (.inr ⟨hh, h2⟩)) h
     ·omega) hr
    have hn6 : n < 10000 := by
     have : (10 : Int) ^ w.length ≤ 10 ^ 4 := by
      have hle : w.length ≤ 4 := by omega
      have := Nat.pow_le_pow_right (n := 10) (by omega) hle
      exact_mod_cast this
     omega
    have hw : itoaL n = w := by
     unfold itoaL
     rw [if_neg (by omega)]
     exact g1 20 (by omega)
    rw [numV_def, ← hw, atoi_itoa g2 (by omega)] at hv
    simp only at hv
    rw [if_pos ⟨g2, by rw [hw]; omega, trivial⟩] at hv
    cases hv
section
variable {c : Nat} {H : Heap}
noncomputable def turnS : Int → Int := hid fun w => IntKind.u64.wrap (w + 11507291218515648293)
theorem turnS_def (w : Int) : turnS w = IntKind.u64.wrap (w + 11507291218515648293) := by rw [turnS, hid_eq]
def xors (x n : Int) : Int := bxor .u64 x (x.fdiv n)
noncomputable def turnV : Int → Int := hid fun w => xors (IntKind.u64.wrap (xors (IntKind.u64.wrap (xors (IntKind.u64.wrap (w + 11507291218515648293)) 4294967296 * 15485907386658061715)) 536870912 * 14029467366897019727)) 4294967296
theorem turnV_def (w : Int) : turnV w = xors (IntKind.u64.wrap (xors (IntKind.u64.wrap (xors (IntKind.u64.wrap (w + 11507291218515648293)) 4294967296 * 15485907386658061715)) 536870912 * 14029467366897019727)) 4294967296 := by rw [turnV, hid_eq]
theorem u64_rng (x : Int) : 0 ≤ IntKind.u64.wrap x ∧ IntKind.u64.wrap x ≤ 18446744073709551615 := by rw [IntKind.wrap_u64]; omega
theorem turnV_rng (w : Int) : 0 ≤ turnV w ∧ turnV w ≤ 18446744073709551615 := by rw [turnV_def]; exact u64_rng _
@[simp] theorem bits_u64 : IntKind.u64.bits = 64 := rfl
@[simp] theorem bits_i64 : IntKind.i64.bits = 64 := rfl
theorem turn_ok {nm : Nm} (hB : isBox H nm) : gcall KC (geval KC) 47 [.bptr nm 0] c H = some (.pure (.int .u64 (turnV (wordAt H nm))), H.set nm (wbox (turnS (wordAt H nm)))) := by
 have hl := isBox_lt hB
 have hg := isBox_get hB
 refine WPv_eq (call_enter KC needT Tryz.func47 rfl rfl good47 rfl rfl rfl (by simp) (by omega) ?_)
 have hne : ¬ nm.1 = H.length := by omega
 have h1 : (IntKind.u64.wrap 32) = 32 := rfl
 generalize wordAt H nm = w at *
 unfold wbox at *
 simp [hne, hl, hg, gleave_free, turnV_def, turnS_def, xors]
noncomputable def upR : Int → Int → Int × Int := hid fun w n =>
 if n < 2 then (0, w) else (IntKind.i64.wrap (((turnV w).fdiv 2).tmod (IntKind.u64.wrap n)), turnS w)
theorem upR_def (w : Int) (n : Int) : upR w n =
 (if n < 2 then (0, w) else (IntKind.i64.wrap (((turnV w).fdiv 2).tmod (IntKind.u64.wrap n)), turnS w)) := by rw [upR, hid_eq]
theorem upR_rng (w n : Int) (h : n ≤ 9223372036854775807) : 0 ≤ (upR w n).1 ∧ ((upR w n).1 < n ∨ (upR w n).1 = 0) := by
 rw [upR_def]
 split
 ·simp
 ·have h1 := turnV_rng w
  have h2 : IntKind.u64.wrap n = n := by rw [IntKind.wrap_u64]; omega
  have h3 : 0 ≤ (turnV w).fdiv 2 := Int.fdiv_nonneg h1.1 (by omega)
  rw [h2, Int.tmod_eq_emod_of_nonneg h3]
  have h4 := Int.emod_nonneg ((turnV w).fdiv 2) (show n ≠ 0 by omega)
  have h5 := Int.emod_lt_of_pos ((turnV w).fdiv 2) (show 0 < n by omega)
  rw [w64 (by omega) (by omega)]
  exact ⟨h4, .inl h5⟩
theorem up_ok {nm : Nm} {n : Int} (hB : isBox H nm) (hn : n ≤ 9223372036854775807) : gcall KC (geval KC) 42 [.bptr nm 0, .pure (.int .i64 n)] c H = some (.pure (.int .i64 (upR (wordAt H nm) n).1), H.set nm (wbox (upR (wordAt H nm) n).2)) := by
 have hl := isBox_lt hB
 have hs := isBox_set hB
 refine WPv_eq (call_enter KC needT Tryz.func42 rfl rfl good42 rfl rfl rfl (by simp) (by omega) ?_)
 have hne : ¬ nm.1 = H.length := by omega
 by_cases h : n < 2
 ·simp [h, upR_def, hs, gleave_free]
 ·have h2 : IntKind.u64.wrap n = n := by rw [IntKind.wrap_u64]; omega
  have h3 : ¬ n = 0 := by omega
  have h4 : ¬ IntKind.u64.wrap n = 0 := by rw [h2]; exact h3
  simp [h, upR_def, turn_ok (isBox_up hB), wordAt_up hl, Heap.set_up hl, gleave_free, h4]
noncomputable def anyR : Int → Int → Int → Int × Int := hid fun w lo hi =>
 let r := upR w (IntKind.i64.wrap (IntKind.i64.wrap (hi - lo) + 1))
 (IntKind.i64.wrap (lo + r.1), r.2)
theorem anyR_def (w : Int) (lo : Int) (hi : Int) : anyR w lo hi =
 (let r := upR w (IntKind.i64.wrap (IntKind.i64.wrap (hi - lo) + 1))
 (IntKind.i64.wrap (lo + r.1), r.2)) := by rw [anyR, hid_eq]
theorem i64_rng (x : Int) : -9223372036854775808 ≤ IntKind.i64.wrap x ∧ IntKind.i64.wrap x ≤ 9223372036854775807 := by rw [IntKind.wrap_i64]; omega
theorem anyR_rng (w lo hi : Int) (h0 : -4611686018427387903 ≤ lo) (h1 : hi ≤ 4611686018427387903) (h : lo ≤ hi) : lo ≤ (anyR w lo hi).1 ∧ (anyR w lo hi).1 ≤ hi := by
 rw [anyR_def]
 rw [w64 (x := hi - lo) (by omega) (by omega), w64 (x := hi - lo + 1) (by omega) (by omega)]
 have := upR_rng w (hi - lo + 1) (by omega)
 simp only
 rw [w64 (by omega) (by omega)]
 omega
theorem any_ok {nm : Nm} {lo hi : Int} (hB : isBox H nm) : gcall KC (geval KC) 46 [.bptr nm 0, .pure (.int .i64 lo), .pure (.int .i64 hi)] c H = some (.pure (.int .i64 (anyR (wordAt H nm) lo hi).1), H.set nm (wbox (anyR (wordAt H nm) lo hi).2)) := by
 have hl := isBox_lt hB
 refine WPv_eq (call_enter KC needT Tryz.func46 rfl rfl good46 rfl rfl rfl (by simp) (by omega) ?_)
 have hr := (i64_rng (IntKind.i64.wrap (hi - lo) + 1)).2
 simp [anyR_def, up_ok (isBox_up hB) hr, wordAt_up hl, Heap.set_up hl, gleave_free]
noncomputable def pickR : Int → List Int → Int × Int := hid fun w l =>
 if l.length = 0 then (0, w) else (l.getD (upR w l.length).1.toNat 0, (upR w l.length).2)
theorem pickR_def (w : Int) (l : List Int) : pickR w l =
 (if l.length = 0 then (0, w) else (l.getD (upR w l.length).1.toNat 0, (upR w l.length).2)) := by rw [pickR, hid_eq]
theorem pick_ok {nm : Nm} {l : List Int} (hB : isBox H nm) (hn : l.length < 4611686018427387904) : gcall KC (geval KC) 44 [.bptr nm 0, .pure (.slice (l.map irow))] c H = some (.pure (.int .i64 (pickR (wordAt H nm) l).1), H.set nm (wbox (pickR (wordAt H nm) l).2)) := by
 have hl := isBox_lt hB
 have hs := isBox_set hB
 refine WPv_eq (call_enter KC needT Tryz.func44 rfl rfl good44 rfl rfl rfl (by simp) (by omega) ?_)
 by_cases h : l.length = 0
 ·obtain rfl : l = [] := List.length_eq_zero_iff.1 h
  simp [pickR_def, hs, gleave_free]
 ·have h2 : ((l.length : Int) == 0) = false := beq_eq_false_iff_ne.2 (by omega)
  have hr := upR_rng (wordAt H nm) l.length (by omega)
  have h3 : ¬ (upR (wordAt H nm) l.length).1 < 0 := by omega
  have h4 : (upR (wordAt H nm) l.length).1.toNat < l.length := by have := hr; clear hl hs hB; omega
  simp [h, h2, pickR_def, up_ok (isBox_up hB) (show (l.length : Int) ≤ 9223372036854775807 by omega), wordAt_up hl, Heap.set_up hl, gleave_free, h3, h4, irow]
theorem gleave_keep {K : Ctx} {f : Nat} {c : Nat} {r : GV} {fr : Fr} (h : K.keep f = true) : gleave K f c r (fr :: H) = (match moveOut (clM c fr H (dedup (deepRefs fr H.length (refs H.length r))) (H.length - 1)) fr H c (dedup (deepRefs fr H.length (refs H.length r))) H with | some H' => some (ren H.length c r, H') | none => none) := by
 unfold gleave; simp only [h, if_true]; rfl
theorem box_loop (l : List Int) (hn : l.length ≤ 9223372036854775807) (Q : GX → GSt → Prop) (hH : 0 < H.length) : ∀ (k i : Nat) (w : Int), i + k = l.length →
  (∀ w', Q (.exit 0) ⟨[(3, .bptr (H.length, 6) 0)], [(6, wbox w')] :: H, 30⟩) →
  WPL KC needT 10 (lp Tryz.f10 0) [0, 3, 4] [3] Q [(0, .pure (.slice (l.map irow))), (3, .bptr (H.length, 6) 0), (4, .pure (.int .i64 i))] ([(6, wbox w)] :: H) 30 := by
 intro k
 induction k with
 | zero =>
  intro i w hi h1
  have hia : ¬ i < l.length := by omega
  apply WPL_step
  conv => arg 4; whnf
  simp [hia, hH]
  exact h1 w
 | succ k ih =>
  intro i w hi h1
  have hia : i < l.length := by omega
  have hw := w64 (x := (i : Int) + 1) (by omega) (by omega)
  have ih' := fun w => ih (i + 1) w (by omega) h1
  apply WPL_step
  conv => arg 4; whnf
  have T := fun (v : Int) (c : Nat) => turn_ok (c := c) (H := [] :: [(6, wbox v)] :: H) (nm := (H.length, 6)) ⟨v, by simp, by simp⟩
  simp [wordAt, wbox] at T
  simp [hia, hH, irow, hw, wbox, T]
  simpa [wbox] using ih' _
theorem BoxOf_ok (l : List Int) (hn : l.length ≤ 9223372036854775807) (hH : 0 < H.length) (hfree : H.get (H.length - 1, newKey c 6) = none) (hcc : newKey c 6 < tyBase) :
  ∃ w, gcall KC (geval KC) 10 [.pure (.slice (l.map irow))] c H = some (.bptr (H.length - 1, newKey c 6) 0, H.set (H.length - 1, newKey c 6) (wbox w)) := by
 have key : WPv (gcall KC (geval KC) 10 [.pure (.slice (l.map irow))] c H) (fun x => ∃ w, x = (.bptr (H.length - 1, newKey c 6) 0, H.set (H.length - 1, newKey c 6) (wbox w))) := by
  refine call_enter KC needT Tryz.func10 rfl rfl good10 rfl rfl rfl (by simp) hH ?_
  have h0 := fun Q hq => box_loop l hn Q hH l.length 0 2685821657736338717 (by omega) hq
  simp [wbox] at h0
  simp
  refine h0 _ (fun w => ?_)
  simp [gleave_keep, KC_keep, refs, refs2, refs1, deepRefs, boxRefs, matRefs, dedup, moveOut, cleanBlk, clM, tyOk_lt hcc, hfree, ren, ren2, ren1]
  exact ⟨w, rfl⟩
 obtain ⟨r, e1, w, e2⟩ := key
 exact ⟨w, by rw [e1, e2]⟩
end
section
variable {c : Nat} {H : Heap}
def firstE (g : Int → Int) : List Int → Int
 | [] => 0
 | x :: r => if g x ≠ 0 then g x else firstE g r
theorem drop_nil {α : Type} {l : List α} {i : Nat} (h : l.length ≤ i) : l.drop i = [] := List.drop_of_length_le h
theorem drop_cons {α : Type} {l : List α} {i : Nat} (h : i < l.length) : l.drop i = l[i] :: l.drop (i + 1) := List.drop_eq_getElem_cons h
def idxF (x : Int) : List Int → Nat → Int
 | [], _ => -1
 | y :: r, i => if x = y then i else idxF x r (i + 1)
theorem index_loop (l : List Int) (x : Int) (hn : l.length ≤ 1000000) (Q : GX → GSt → Prop) (hH : 0 < H.length) : ∀ k i : Nat, i + k = l.length →
  (idxF x (l.drop i) i = -1 → Q (.exit 0) ⟨[(4, gdead)], H, 19⟩) → (0 ≤ idxF x (l.drop i) i → Q .ret ⟨[(4, .pure (.int .i64 (idxF x (l.drop i) i)))], H, 19⟩) →
  WPL KC needT 137 (lp Tryz.f137 0) [0, 1, 7, 8] [4] Q [(0, .pure (.slice (l.map irow))), (1, .pure (.int .i64 x)), (7, .pure (.int .i64 l.length)), (8, .pure (.int .i64 i))] H 19 := by
 intro k
 induction k with
 | zero =>
  intro i hi h1 h2
  rw [drop_nil (by omega)] at h1
  apply WPL_step
  conv => arg 4; whnf
  have : ¬ i < l.length := by omega
  simp [this, hH]
  exact h1 rfl
 | succ k ih =>
  intro i hi h1 h2
  have hia : i < l.length := by omega
  have hw := w64 (x := (i : Int) + 1) (by omega) (by omega)
  rw [drop_cons hia] at h1 h2
  unfold idxF at h1 h2
  apply WPL_step
  conv => arg 4; whnf
  by_cases he : x = l[i]
  ·rw [if_pos he] at h1 h2
   simp [hia, hH, irow, he]
   exact h2 (by omega)
  ·have he' : (x == l[i]) = false := by simpa using he
   rw [if_neg he] at h1 h2
   simp [hia, hH, irow, he', hw]
   simpa [irow] using ih (i + 1) (by omega) h1 h2
theorem index_ok (l : List Int) (x : Int) (hn : l.length ≤ 1000000) (hH : 0 < H.length) : gcall KC (geval KC) 137 [.pure (.slice (l.map irow)), .pure (.int .i64 x)] c H = some (.pure (.int .i64 (idxF x l 0)), H) := by
 refine WPv_eq (call_enter KC needT Tryz.func137 rfl rfl good137 rfl rfl rfl (by simp) hH ?_)
 have L := fun Q => index_loop (H := [] :: H) l x hn Q (by simp) l.length 0 (by omega)
 simp only [List.drop_zero] at L
 simp
 refine L _ (fun h => ?_) (fun h => ?_)
 ·simp [h, gleave_free]
 ·simp [gleave_free]
theorem count_loop (l : List Int) (x : Int) (hn : l.length ≤ 1000000) (Q : GX → GSt → Prop) (hH : 0 < H.length) : ∀ k i n : Nat, i + k = l.length → n ≤ i →
  Q (.exit 0) ⟨[(5, .pure (.int .i64 ((n + (l.drop i).count x : Nat) : Int)))], H, 21⟩ →
  WPL KC needT 101 (lp Tryz.f101 0) [1, 5, 8, 9, 10] [5] Q [(1, .pure (.int .i64 x)), (5, .pure (.int .i64 (n : Int))), (8, .pure (.slice (l.map irow))), (9, .pure (.int .i64 l.length)), (10, .pure (.int .i64 i))] H 21 := by
 intro k
 induction k with
 | zero =>
  intro i n hi hni h1
  rw [drop_nil (by omega)] at h1
  apply WPL_step
  conv => arg 4; whnf
  have : ¬ i < l.length := by omega
  simp [this, hH]
  simpa using h1
 | succ k ih =>
  intro i n hi hni h1
  have hia : i < l.length := by omega
  have hw := w64 (x := (i : Int) + 1) (by omega) (by omega)
  have hw2 := w64 (x := (n : Int) + 1) (by omega) (by omega)
  rw [drop_cons hia, List.count_cons] at h1
  apply WPL_step
  conv => arg 4; whnf
  by_cases he : l[i] = x
  ·have ih' := ih (i + 1) (n + 1) (by omega) (by omega) (by
    have e : n + 1 + (l.drop (i + 1)).count x = n + ((l.drop (i + 1)).count x + if (l[i] == x) = true then 1 else 0) := by simp [he]; omega
    rw [e]; exact h1)
   simp [hia, hH, irow, he, hw, hw2]
   simpa [irow] using ih'
  ·have he' : (l[i] == x) = false := by simpa using he
   have ih' := ih (i + 1) n (by omega) (by omega) (by
    have e : n + (l.drop (i + 1)).count x = n + ((l.drop (i + 1)).count x + if (l[i] == x) = true then 1 else 0) := by simp [he]
    rw [e]; exact h1)
   simp [hia, hH, irow, he', hw]
   simpa [irow] using ih'
theorem count_ok (l : List Int) (x : Int) (hn : l.length ≤ 1000000) (hH : 0 < H.length) : gcall KC (geval KC) 101 [.pure (.slice (l.map irow)), .pure (.int .i64 x)] c H = some (.pure (.int .i64 (l.count x : Nat)), H) := by
 refine WPv_eq (call_enter KC needT Tryz.func101 rfl rfl good101 rfl rfl rfl (by simp) hH ?_)
 simp
 have L := fun Q => count_loop (H := [] :: H) l x hn Q (by simp) l.length 0 0 (by omega) (by omega)
 simp at L
 refine L _ ?_
 simp [gleave_free]
def ansE (x : Int) : Int := if inB x (-1) 8 = true then 0 else 2
def wrF (l : List Int) (n : Int) : Int := if (l.length : Int) ≠ n then 3 else firstE ansE l
theorem written_loop (l : List Int) (hn : l.length ≤ 1000000) (Q : GX → GSt → Prop) (hH : 0 < H.length) : ∀ k i : Nat, i + k = l.length →
  (firstE ansE (l.drop i) = 0 → Q (.exit 0) ⟨[(4, gdead)], H, 21⟩) → (firstE ansE (l.drop i) = 2 → Q .ret ⟨[(4, .pure (.int .i64 2))], H, 21⟩) →
  WPL KC needT 97 (lp Tryz.f97 0) [11, 12, 13] [4] Q [(11, .pure (.slice (l.map irow))), (12, .pure (.int .i64 l.length)), (13, .pure (.int .i64 i))] H 21 := by
 intro k
 induction k with
 | zero =>
  intro i hi h1 h2
  rw [drop_nil (by omega)] at h1
  apply WPL_step
  conv => arg 4; whnf
  have : ¬ i < l.length := by omega
  simp [this, hH]
  exact h1 rfl
 | succ k ih =>
  intro i hi h1 h2
  have hia : i < l.length := by omega
  have hw := w64 (x := (i : Int) + 1) (by omega) (by omega)
  rw [drop_cons hia] at h1 h2
  unfold firstE at h1 h2
  have W := fun c (H : Heap) (hH : 0 < H.length) => withinP_ok (c := c) (x := l[i]) (lo := -1) (hi := 8) (H := H) hH
  apply WPL_step
  conv => arg 4; whnf
  by_cases he : inB l[i] (-1) 8 = true
  ·have e : ansE l[i] = 0 := by simp [ansE, he]
   simp only [e, ne_eq, not_true_eq_false, if_false] at h1 h2
   simp [hia, hH, irow, W, he, hw]
   simpa [irow] using ih (i + 1) (by omega) h1 h2
  ·have e : ansE l[i] = 2 := by simp [ansE, he]
   have he' : inB l[i] (-1) 8 = false := by simpa using he
   simp only [e] at h1 h2
   simp [hia, hH, irow, W, he']
   exact h2 (by simp)
theorem written_ok0 (l : List Int) (n : Int) (hn : l.length ≤ 1000000) (hH : 0 < H.length) : gcall0 KC (geval KC) 97 [.pure (.slice (l.map irow)), .pure (.int .i64 n)] c H = some (.pure (.int .i64 (wrF l n)), H) := by
 refine WPv_eq (call_enter0 KC needT Tryz.func97 rfl rfl good97 (by simp) hH ?_)
 unfold wrF
 by_cases h : (l.length : Int) = n
 ·have h2 : ((l.length : Int) != n) = false := by simpa using h
  have L := fun Q => written_loop (H := [] :: H) l hn Q (by simp) l.length 0 (by omega)
  simp only [List.drop_zero] at L
  simp [h2, h]
  subst h
  refine L _ (fun h => ?_) (fun h => ?_)
  ·simp [h, gleave_free]
  ·simp [h, gleave_free]
 ·have h2 : ((l.length : Int) != n) = true := by simpa using h
  simp [h2, h, gleave_free]
theorem written_ok (l : List Int) (n : Int) (hn : l.length ≤ 1000000) (hH : 0 < H.length) : gcall KC (geval KC) 97 [.pure (.slice (l.map irow)), .pure (.int .i64 n)] c H = some (.pure (.int .i64 (wrF l n)), H) :=
 bor_c rfl rfl rfl rfl rfl hH fun H hH => written_ok0 l n hn hH
theorem checkAnswer_loop (l : List Int) (hn : l.length ≤ 1000000) (Q : GX → GSt → Prop) (hH : 0 < H.length) : ∀ k i : Nat, i + k = l.length →
  (firstE ansE (l.drop i) = 0 → Q (.exit 0) ⟨[(4, gdead)], H, 21⟩) → (firstE ansE (l.drop i) = 2 → Q .ret ⟨[(4, .pure (.int .i64 2))], H, 21⟩) →
  WPL KC needT 103 (lp Tryz.f103 0) [0, 1, 5] [4] Q [(0, .pure (.slice (l.map irow))), (1, .pure (.int .i64 l.length)), (5, .pure (.int .i64 i))] H 21 := by
 intro k
 induction k with
 | zero =>
  intro i hi h1 h2
  rw [drop_nil (by omega)] at h1
  apply WPL_step
  conv => arg 4; whnf
  have : ¬ i < l.length := by omega
  simp [this, hH]
  exact h1 rfl
 | succ k ih =>
  intro i hi h1 h2
  have hia : i < l.length := by omega
  have hw := w64 (x := (i : Int) + 1) (by omega) (by omega)
  rw [drop_cons hia] at h1 h2
  unfold firstE at h1 h2
  have W := fun c (H : Heap) (hH : 0 < H.length) => withinR_ok (c := c) (x := l[i]) (lo := -1) (hi := 8) (H := H) hH
  apply WPL_step
  conv => arg 4; whnf
  by_cases he : inB l[i] (-1) 8 = true
  ·have e : ansE l[i] = 0 := by simp [ansE, he]
   simp only [e, ne_eq, not_true_eq_false, if_false] at h1 h2
   simp [hia, hH, irow, W, he, hw]
   simpa [irow] using ih (i + 1) (by omega) h1 h2
  ·have e : ansE l[i] = 2 := by simp [ansE, he]
   have he' : inB l[i] (-1) 8 = false := by simpa using he
   simp only [e] at h1 h2
   simp [hia, hH, irow, W, he']
   exact h2 (by simp)
theorem checkAnswer_ok (l : List Int) (n : Int) (hn : l.length ≤ 1000000) (hH : 0 < H.length) : gcall KC (geval KC) 103 [.pure (.slice (l.map irow)), .pure (.int .i64 n)] c H = some (.pure (.int .i64 (wrF l n)), H) := by
 refine bor_c rfl rfl rfl rfl rfl hH fun H hH => ?_
 refine WPv_eq (call_enter0 KC needT Tryz.func103 rfl rfl good103 (by simp) hH ?_)
 unfold wrF
 by_cases h : (l.length : Int) = n
 ·have h2 : ((l.length : Int) != n) = false := by simpa using h
  have L := fun Q => checkAnswer_loop (H := [] :: H) l hn Q (by simp) l.length 0 (by omega)
  simp only [List.drop_zero] at L
  simp [h2, h]
  subst h
  refine L _ (fun h => ?_) (fun h => ?_)
  ·simp [h, gleave_free]
  ·simp [h, gleave_free]
 ·have h2 : ((l.length : Int) != n) = true := by simpa using h
  simp [h2, h, gleave_free]
end
section
variable {c : Nat} {H : Heap}
def lenM (b : Option Blk) : Option Int := match b with | some (.map es) => some es.length | _ => none
@[congr] theorem lenM_cg {b b' : Option Blk} (h : ∀ _ : Unit, b = b') : lenM b = lenM b' := by rw [h ()]
@[simp] theorem lenM_map {es : List (PV × GV)} : lenM (some (.map es)) = some (es.length : Int) := .trans rfl rfl
@[simp] theorem lenD_map {k e : TypeId} {nm : Nm} : lenD (some (.map k e)) H (.map nm) = lenM (H.get nm) := by
 unfold lenD lenM
 rfl
@[simp] theorem kf3 (n : Int) : keyFitsK KC 3 (.int .i64 n) = true := by kernel_rfl
end
section
variable {c : Nat} {H : Heap}
end
section
variable {c : Nat} {H : Heap}
end
section
variable {c : Nat} {H : Heap}
end

def W (x : Int) : Int := IntKind.i64.wrap x
section
variable {c : Nat} {H : Heap}
def cellsT (tab : List Nat) : List GV := tab.map fun (n : Nat) => .pure (.int .i64 (n : Int))
@[simp] theorem cellsT_len {tab : List Nat} : (cellsT tab).length = tab.length := by simp [cellsT]
@[simp] theorem nil22 {a : List (List PV)} {b : List PV} : gnilEq KC .eql 26 (.pure (.slice (b :: a))) = some (.bool false) := by simp [gnilEq, nonNil]
end



def tm (B m : Nat) : List Bool := (List.range B).map fun y => m.testBit y

section
variable {c : Nat} {H : Heap}
end
section
variable {c : Nat} {H : Heap}
end


section
variable {c : Nat} {H : Heap}
end
section
variable {c : Nat} {H : Heap}
end
section
variable {c : Nat} {H : Heap}
def arow (l : List Int) : List PV := [.slice (l.map irow)]
end
section
variable {c : Nat} {H : Heap}
structure Tab where
 packets : Int
 passed : Int
 state : Int
 answers : List (List Int)
def Tab.row (t : Tab) : List PV := [.int .i64 t.packets, .int .i64 t.passed, .int .i64 t.state, .slice (t.answers.map arow)]
def tb (t : Tab) : Blk := .box [.pure (.int .i64 t.packets), .pure (.int .i64 t.passed), .pure (.int .i64 t.state), .pure (.slice (t.answers.map arow))]
def Sm (t : Tab) : Prop := t.answers.length ≤ 1000000 ∧ ∀ a ∈ t.answers, a.length ≤ 1000000
def rowE (p q : Int) (a : List Int) : Int := if wrF a p ≠ 0 then wrF a p else if ((a.drop q.toNat).count (-1) : Int) < p - q then 13 else 0
def rowsE (p q : Int) : List (List Int) → Int
 | [] => 0
 | a :: r => if rowE p q a ≠ 0 then rowE p q a else rowsE p q r
def chkT (t : Tab) : Int :=
 if inB t.packets 1 9 = false then 2 else if inB t.passed 0 t.packets = false then 2 else if inB t.state 1 4 = false then 4 else if t.answers.length = 0 then 6 else if 12 < t.answers.length then 8
 else if rowsE t.packets t.passed t.answers ≠ 0 then rowsE t.packets t.passed t.answers else if 3 ≤ t.state ∧ t.passed < t.packets then 10 else 0
theorem wrF_len {a : List Int} {n : Int} (h : wrF a n = 0) : (a.length : Int) = n := by
 unfold wrF at h
 split at h
 ·simp at h
 ·omega
theorem chkT_loop (t : Tab) (hs : Sm t) (hp : 1 ≤ t.packets ∧ t.packets ≤ 9) (hq : 0 ≤ t.passed ∧ t.passed ≤ t.packets) (Q : GX → GSt → Prop) (hH : 0 < H.length) : ∀ k i : Nat, i + k = t.answers.length →
  (rowsE t.packets t.passed (t.answers.drop i) = 0 → Q (.exit 1) ⟨[(1, .bptr (H.length, 1) 0), (2, gdead)], [(1, tb t)] :: H, 68⟩) →
  (rowsE t.packets t.passed (t.answers.drop i) ≠ 0 → Q .ret ⟨[(1, .bptr (H.length, 1) 0), (2, .pure (.int .i64 (rowsE t.packets t.passed (t.answers.drop i))))], [(1, tb t)] :: H, 68⟩) →
  WPL KC needT 65 (lp Tryz.f65 0) [1, 33, 34, 35] [1, 2] Q [(1, .bptr (H.length, 1) 0), (33, .pure (.slice (t.answers.map arow))), (34, .pure (.int .i64 t.answers.length)), (35, .pure (.int .i64 i))] ([(1, tb t)] :: H) 68 := by
 intro k
 induction k with
 | zero =>
  intro i hi h1 h2
  rw [drop_nil (by omega)] at h1
  apply WPL_step
  conv => arg 4; whnf
  have : ¬ i < t.answers.length := by omega
  simp [this, hH, tb]
  exact h1 rfl
 | succ k ih =>
  intro i hi h1 h2
  have hs1 := hs.1
  have hia : i < t.answers.length := by omega
  have hw := w64 (x := (i : Int) + 1) (by omega) (by omega)
  have hla := hs.2 _ (List.getElem_mem hia)
  rw [drop_cons hia] at h1 h2
  unfold rowsE at h1 h2
  obtain ⟨a, ha⟩ : ∃ a, t.answers[i] = a := ⟨_, rfl⟩
  rw [ha] at h1 h2 hla
  have W := fun c (H : Heap) (hH : 0 < H.length) => written_ok (c := c) (H := H) a t.packets hla hH
  have C := fun c (H : Heap) (hH : 0 < H.length) => count_ok (c := c) (H := H) (a.drop t.passed.toNat) (-1) (by simp; omega) hH
  rw [List.map_drop] at C
  have hall : ∀ x : Int, (irow x).length = 1 := fun x => rfl
  have hw2 := w64 (x := t.packets - t.passed) (by omega) (by omega)
  have hq0 : ¬ t.passed < 0 := by omega
  apply WPL_step
  conv => arg 4; whnf
  by_cases he : wrF a t.packets = 0
  ·have hlen := wrF_len he
   have e1 : rowE t.packets t.passed a = if ((a.drop t.passed.toNat).count (-1) : Int) < t.packets - t.passed then 13 else 0 := by unfold rowE; rw [if_neg (by simpa using he)]
   have hq1 : t.passed.toNat ≤ a.length := by omega
   have htk : (a.map irow).take a.length = a.map irow := List.take_of_length_le (by simp)
   generalize hcn : ((a.drop t.passed.toNat).count (-1) : Nat) = cn at *
   by_cases hc : (cn : Int) < t.packets - t.passed
   ·rw [if_pos hc] at e1
    rw [e1] at h2
    simp [hia, ha, arow, hH, tb, W, C, he, hq0, hq1, htk, hall, hw2, hc]
    exact h2 (by simp)
   ·rw [if_neg hc] at e1
    rw [e1] at h1 h2
    simp only [ne_eq, not_true_eq_false, if_false] at h1 h2
    have ih' := ih (i + 1) (by omega) h1 h2
    simp [hia, ha, arow, hH, tb, W, C, he, hq0, hq1, htk, hall, hw2, hc, hw]
    simpa [arow, tb] using ih'
  ·have e1 : rowE t.packets t.passed a = wrF a t.packets := by unfold rowE; rw [if_pos he]
   rw [e1] at h2
   have he' : (wrF a t.packets != 0) = true := by simpa using he
   rw [if_pos he] at h2
   simp [hia, ha, arow, hH, tb, W, he']
   exact h2 he
theorem chkT_ok (t : Tab) (hs : Sm t) (hH : 0 < H.length) : gcall KC (geval KC) 65 [.pure (.agg t.row)] c H = some (.pure (.int .i64 (chkT t)), H) := by
 refine WPv_eq (call_enter KC needT Tryz.func65 rfl rfl good65 rfl rfl rfl (by simp) hH ?_)
 have hs1 := hs.1
 have W := fun c (H : Heap) (hH : 0 < H.length) (x lo hi : Int) => withinP_ok (c := c) (x := x) (lo := lo) (hi := hi) (H := H) hH
 unfold chkT
 by_cases h1 : inB t.packets 1 9 = false
 ·simp [Tab.row, W, h1, gleave_free]
 have h1' : inB t.packets 1 9 = true := by simpa using h1
 by_cases h2 : inB t.passed 0 t.packets = false
 ·simp [Tab.row, W, h1', h2, gleave_free]
 have h2' : inB t.passed 0 t.packets = true := by simpa using h2
 by_cases h3 : inB t.state 1 4 = false
 ·simp [Tab.row, W, h1', h2', h3, gleave_free]
 have h3' : inB t.state 1 4 = true := by simpa using h3
 by_cases h4 : t.answers.length = 0
 ·have h5 : t.answers = [] := List.length_eq_zero_iff.1 h4
  simp [Tab.row, W, h1', h2', h3', h5, gleave_free]
 have h4' : ((t.answers.length : Int) == 0) = false := by simp; exact fun e => h4 (by rw [e]; rfl)
 have h4'' : ¬ t.answers = [] := fun e => h4 (by rw [e]; rfl)
 by_cases h5 : 12 < t.answers.length
 ·have h6 : (12 : Int) < t.answers.length := by omega
  simp [Tab.row, W, h1', h2', h3', h4, h4', h4'', h5, h6, gleave_free]
 have h6 : ¬ (12 : Int) < t.answers.length := by omega
 have r1 := inB_iff.1 h1'
 have r2 := inB_iff.1 h2'
 have L := fun Q => chkT_loop (H := H) t hs ⟨by omega, by omega⟩ ⟨by omega, by omega⟩ Q hH t.answers.length 0 (by omega)
 simp [tb] at L
 simp [Tab.row, W, h1', h2', h3', h4, h4', h4'', h5, h6]
 refine L _ (fun h => ?_) (fun h => ?_)
 ·by_cases h7 : 3 ≤ t.state
  ·by_cases h8 : t.passed < t.packets
   ·simp [h, h7, h8, gleave_free]
   ·simp [h, h7, h8, gleave_free]
  ·simp [h, h7, gleave_free]
 ·simp [h, gleave_free]
def lateOk (a : List Int) : Bool := a.all fun x => x == -1
theorem lateOk_cons (x : Int) (r : List Int) : lateOk (x :: r) = (x == -1 && lateOk r) := rfl
theorem late_loop (t : Tab) (i : Nat) (a : List Int) (hi : i < t.answers.length) (ha : t.answers[i] = a) (hlen : (a.length : Int) = t.packets) (hp : t.packets ≤ 9) (Q : GX → GSt → Prop) (hH : 0 < H.length) : ∀ j k : Nat, k + j = a.length →
  (lateOk (a.drop k) = true → Q (.exit 2) ⟨[(1, .bptr (H.length, 1) 0), (2, gdead), (3, .pure (.int .i64 i))], [] :: [(1, tb t)] :: H, 80⟩) →
  (lateOk (a.drop k) = false → Q .ret ⟨[(1, .bptr (H.length, 1) 0), (2, .pure (.int .i64 13)), (3, .pure (.int .i64 i))], [] :: [(1, tb t)] :: H, 80⟩) →
  WPL KC needT 66 (lp Tryz.f66 1) [1, 3, 5] [1, 2, 3] Q [(1, .bptr (H.length, 1) 0), (3, .pure (.int .i64 i)), (5, .pure (.int .i64 k))] ([] :: [(1, tb t)] :: H) 80 := by
 intro j
 induction j with
 | zero =>
  intro k hk h1 h2
  rw [drop_nil (by omega)] at h1
  apply WPL_step
  conv => arg 4; whnf
  have : ¬ (k : Int) < t.packets := by omega
  simp [this, hH, tb]
  exact h1 rfl
 | succ j ih =>
  intro k hk h1 h2
  have hka : k < a.length := by omega
  have hkp : (k : Int) < t.packets := by omega
  have hw := w64 (x := (k : Int) + 1) (by omega) (by omega)
  rw [drop_cons hka, lateOk_cons] at h1 h2
  have ih' := ih (k + 1) (by omega)
  apply WPL_step
  conv => arg 4; whnf
  by_cases he : a[k] = -1
  ·have ih2 := ih' (fun h => h1 (by simp [he, h])) (fun h => h2 (by simp [he, h]))
   simp [hi, hka, hkp, arow, irow, tb, hH, ha, he, hw]
   simpa [tb, arow, irow] using ih2
  ·have he' : (a[k] == -1) = false := by simpa using he
   have he2 : (a[k] != -1) = true := by simpa using he
   simp [hi, hka, hkp, arow, irow, tb, hH, ha, he2]
   exact h2 (by simp [he'])
theorem all_count (l : List Int) : lateOk l = true ↔ l.count (-1) = l.length := by
 unfold lateOk
 rw [List.count_eq_length]
 simp only [List.all_eq_true, beq_iff_eq]
 exact ⟨fun h x hx => (h x hx).symm, fun h x hx => (h x hx).symm⟩
theorem rowE_late {a : List Int} {p q : Int} (h : (a.length : Int) = p) (hw : wrF a p = 0) (hq : 0 ≤ q ∧ q ≤ p) : rowE p q a = if lateOk (a.drop q.toNat) = true then 0 else 13 := by
 unfold rowE
 rw [if_neg (by simpa using hw)]
 have hl : ((a.drop q.toNat).length : Int) = p - q := by simp; omega
 have hc : (a.drop q.toNat).count (-1) ≤ (a.drop q.toNat).length := List.count_le_length
 by_cases hall : lateOk (a.drop q.toNat) = true
 ·have := (all_count _).1 hall
  rw [if_pos hall, if_neg (by omega)]
 ·have : (a.drop q.toNat).count (-1) ≠ (a.drop q.toNat).length := fun e => hall ((all_count _).2 e)
  rw [if_neg hall, if_pos (by omega)]
theorem chkTR_loop (t : Tab) (hs : Sm t) (hp : 1 ≤ t.packets ∧ t.packets ≤ 9) (hq : 0 ≤ t.passed ∧ t.passed ≤ t.packets) (Q : GX → GSt → Prop) (hH : 0 < H.length) : ∀ k i : Nat, i + k = t.answers.length →
  (rowsE t.packets t.passed (t.answers.drop i) = 0 → Q (.exit 0) ⟨[(1, .bptr (H.length, 1) 0), (2, gdead)], [(1, tb t)] :: H, 80⟩) →
  (rowsE t.packets t.passed (t.answers.drop i) ≠ 0 → Q .ret ⟨[(1, .bptr (H.length, 1) 0), (2, .pure (.int .i64 (rowsE t.packets t.passed (t.answers.drop i))))], [(1, tb t)] :: H, 80⟩) →
  WPL KC needT 66 (lp Tryz.f66 0) [1, 3] [1, 2] Q [(1, .bptr (H.length, 1) 0), (3, .pure (.int .i64 i))] ([(1, tb t)] :: H) 80 := by
 intro k
 induction k with
 | zero =>
  intro i hi h1 h2
  rw [drop_nil (by omega)] at h1
  apply WPL_step
  conv => arg 4; whnf
  have : ¬ i < t.answers.length := by omega
  simp [this, hH, tb]
  exact h1 rfl
 | succ k ih =>
  intro i hi h1 h2
  have hs1 := hs.1
  have hia : i < t.answers.length := by omega
  have hw := w64 (x := (i : Int) + 1) (by omega) (by omega)
  have hla := hs.2 _ (List.getElem_mem hia)
  rw [drop_cons hia] at h1 h2
  unfold rowsE at h1 h2
  obtain ⟨a, ha⟩ : ∃ a, t.answers[i] = a := ⟨_, rfl⟩
  rw [ha] at h1 h2 hla
  have W := fun c (H : Heap) (hH : 0 < H.length) => checkAnswer_ok (c := c) (H := H) a t.packets hla hH
  apply WPL_step
  conv => arg 4; whnf
  by_cases he : wrF a t.packets = 0
  ·have hlen := wrF_len he
   have e1 := rowE_late hlen he hq
   obtain ⟨q, hqn⟩ : ∃ q : Nat, t.passed = (q : Int) := ⟨t.passed.toNat, by omega⟩
   have L := fun Q => late_loop (H := H) t i a hia ha hlen (by omega) Q hH (a.length - q) q (by omega)
   rw [hqn] at e1
   simp only [Int.toNat_natCast] at e1
   rw [hqn] at h1 h2
   simp [tb, hqn] at L
   simp [hia, ha, arow, hH, tb, W, he, hqn]
   refine L _ (fun h => ?_) (fun h => ?_)
   ·have hall : lateOk (a.drop q) = true := h
    rw [if_pos hall] at e1
    rw [e1] at h1 h2
    simp only [ne_eq, not_true_eq_false, if_false] at h1 h2
    have ih' := ih (i + 1) (by omega) (by rw [hqn]; exact h1) (by rw [hqn]; exact h2)
    simp [hH, hw]
    simpa [arow, tb, hqn] using ih'
   ·have hall : ¬ lateOk (a.drop q) = true := by rw [h]; simp
    rw [if_neg hall] at e1
    rw [e1] at h2
    simp [hH]
    simpa [tb, hqn] using h2 (by simp)
  ·have e1 : rowE t.packets t.passed a = wrF a t.packets := by unfold rowE; rw [if_pos he]
   rw [e1] at h2
   have he' : (wrF a t.packets != 0) = true := by simpa using he
   rw [if_pos he] at h2
   simp [hia, ha, arow, hH, tb, W, he']
   exact h2 he
theorem chkTR_ok (t : Tab) (hs : Sm t) (hH : 0 < H.length) : gcall KC (geval KC) 66 [.pure (.agg t.row)] c H = some (.pure (.int .i64 (chkT t)), H) := by
 refine WPv_eq (call_enter KC needT Tryz.func66 rfl rfl good66 rfl rfl rfl (by simp) hH ?_)
 have hs1 := hs.1
 have W := fun c (H : Heap) (hH : 0 < H.length) (x lo hi : Int) => withinR_ok (c := c) (x := x) (lo := lo) (hi := hi) (H := H) hH
 unfold chkT
 by_cases h1 : inB t.packets 1 9 = false
 ·simp [Tab.row, W, h1, gleave_free]
 have h1' : inB t.packets 1 9 = true := by simpa using h1
 by_cases h2 : inB t.passed 0 t.packets = false
 ·simp [Tab.row, W, h1', h2, gleave_free]
 have h2' : inB t.passed 0 t.packets = true := by simpa using h2
 by_cases h3 : inB t.state 1 4 = false
 ·simp [Tab.row, W, h1', h2', h3, gleave_free]
 have h3' : inB t.state 1 4 = true := by simpa using h3
 by_cases h4 : t.answers.length = 0
 ·have h5 : t.answers = [] := List.length_eq_zero_iff.1 h4
  simp [Tab.row, W, h1', h2', h3', h5, gleave_free]
 have h4' : ((t.answers.length : Int) == 0) = false := by simp; exact fun e => h4 (by rw [e]; rfl)
 have h4'' : ¬ t.answers = [] := fun e => h4 (by rw [e]; rfl)
 by_cases h5 : 12 < t.answers.length
 ·have h6 : (12 : Int) < t.answers.length := by omega
  simp [Tab.row, W, h1', h2', h3', h4, h4', h4'', h5, h6, gleave_free]
 have h6 : ¬ (12 : Int) < t.answers.length := by omega
 have r1 := inB_iff.1 h1'
 have r2 := inB_iff.1 h2'
 have r3 := inB_iff.1 h3'
 have L := fun Q => chkTR_loop (H := H) t hs ⟨by omega, by omega⟩ ⟨by omega, by omega⟩ Q hH t.answers.length 0 (by omega)
 simp [tb] at L
 simp [Tab.row, W, h1', h2', h3', h4, h4', h4'', h5, h6]
 refine L _ (fun h => ?_) (fun h => ?_)
 ·have st : (t.state == 3 || t.state == 4) = decide (3 ≤ t.state) := by
   by_cases a : t.state = 3
   ·simp [a]
   ·by_cases b : t.state = 4
    ·simp [b]
    ·have : ¬ 3 ≤ t.state := by omega
     simp [a, b, this]
  by_cases a : t.state = 3
  ·by_cases h8 : t.passed < t.packets
   ·simp [h, a, h8, gleave_free]
   ·simp [h, a, h8, gleave_free]
  ·have a' : (t.state == 3) = false := by simpa using a
   by_cases b : t.state = 4
   ·by_cases h8 : t.passed < t.packets
    ·simp [h, b, h8, gleave_free]
    ·simp [h, b, h8, gleave_free]
   ·have b' : (t.state == 4) = false := by simpa using b
    have : ¬ 3 ≤ t.state := by omega
    simp [h, a', b', this, gleave_free]
 ·simp [h, gleave_free]
end
section
variable {c : Nat} {H : Heap}
def tableW : List UInt8 := [116, 97, 98, 108, 101]
def guestW : List UInt8 := [103, 117, 101, 115, 116]
def endW : List UInt8 := [101, 110, 100]
def stW (s : Int) : List UInt8 := if s = 1 then [111, 112, 101, 110] else if s = 2 then [112, 97, 117, 115, 101, 100] else if s = 3 then [99, 108, 111, 115, 101, 100] else [115, 104, 111, 119, 110]
def cellS (n : Int) : List UInt8 := if n < 0 then [32, 45] else 32 :: itoaL n
def gRow (a : List Int) : List UInt8 := guestW ++ a.flatMap cellS ++ [10]
def headS (t : Tab) : List UInt8 := tableW ++ 32 :: itoaL t.packets ++ 32 :: itoaL t.passed ++ 32 :: stW t.state ++ [10]
def lastS (n : Nat) : List UInt8 := endW ++ 32 :: itoaL (n : Int) ++ [10]
def saveS (t : Tab) : List UInt8 := headS t ++ t.answers.flatMap gRow ++ lastS t.answers.length
theorem stW_len (s : Int) : (stW s).length ≤ 6 := by
 unfold stW
 split
 ·simp
 ·split
  ·simp
  ·split <;> simp
theorem cellS_len (n : Int) : (cellS n).length ≤ 22 := by
 have := itoaL_len n
 unfold cellS
 split
 ·simp
 ·simp; omega
theorem gRow_len (a : List Int) : (gRow a).length ≤ 22 * a.length + 6 := by
 have := flat_len cellS_len a
 unfold gRow
 simp [guestW] at this ⊢
 omega
theorem headS_len (t : Tab) : (headS t).length ≤ 60 := by
 have h1 := itoaL_len t.packets
 have h2 := itoaL_len t.passed
 have h3 := stW_len t.state
 unfold headS
 simp [tableW]
 omega
theorem lastS_len (n : Nat) : (lastS n).length ≤ 30 := by
 have h1 := itoaL_len n
 unfold lastS
 simp [endW]
 omega
theorem rows_len {m : Nat} : ∀ {l : List (List Int)}, (∀ a ∈ l, a.length ≤ m) → (l.flatMap gRow).length ≤ (22 * m + 6) * l.length
 | [], _ => by simp
 | a :: l, h => by
  have h1 := rows_len fun b hb => h b (List.mem_cons_of_mem _ hb)
  have h2 := gRow_len a
  have h3 := h a List.mem_cons_self
  have h4 : 22 * a.length ≤ 22 * m := Nat.mul_le_mul_left _ h3
  simp only [List.flatMap_cons, List.length_append, List.length_cons, Nat.mul_add]
  omega
theorem tyB_ne : kB ≠ kA := by rw [kB_def, kA_def]; simp
theorem ty1A : (1 : Nat) ≠ kA := by rw [kA_def]; simp
theorem ty1B : (1 : Nat) ≠ kB := by rw [kB_def]; simp
@[simp] theorem ev_g0 {s : Slots} : ev s (.global 0) = .pptr [.str [], .str [111, 112, 101, 110], .str [112, 97, 117, 115, 101, 100], .str [99, 108, 111, 115, 101, 100], .str [115, 104, 111, 119, 110]] := by
 have e : globs 0 = some [.str [], .str [111, 112, 101, 110], .str [112, 97, 117, 115, 101, 100], .str [99, 108, 111, 115, 101, 100], .str [115, 104, 111, 119, 110]] := by kernel_rfl
 show (match globs 0 with | some cs => GV.pptr cs | none => gdead) = _
 rw [e]
theorem wr_up1 {kb : Nat} {F f0 : Fr} {l s : List UInt8} (hB : Bl (F :: H) (H.length, kb) l) (hs : s ≠ []) (hn : l.length + s.length ≤ 1099511627776) :
  gcall KC (geval KC) 50 [.bptr (H.length, kb) 0, .pure (.str s)] c (f0 :: F :: H) = some (.pure (.tuple [.int .i64 s.length, .nili]), f0 :: setF F kA kb H.length (l ++ s) :: H) := by
 rw [write_ok hB.up hs hn, setB_up (by simp), setB_top]
theorem wr_top {kb : Nat} {F : Fr} {l s : List UInt8} (hB : Bl (F :: H) (H.length, kb) l) (hs : s ≠ []) (hn : l.length + s.length ≤ 1099511627776) :
  gcall KC (geval KC) 50 [.bptr (H.length, kb) 0, .pure (.str s)] c (F :: H) = some (.pure (.tuple [.int .i64 s.length, .nili]), setF F kA kb H.length (l ++ s) :: H) := by
 rw [write_ok hB hs hn, setB_top]
theorem wr_up2 {kb : Nat} {F f0 f1 : Fr} {l s : List UInt8} (hB : Bl (F :: H) (H.length, kb) l) (hs : s ≠ []) (hn : l.length + s.length ≤ 1099511627776) :
  gcall KC (geval KC) 50 [.bptr (H.length, kb) 0, .pure (.str s)] c (f1 :: f0 :: F :: H) = some (.pure (.tuple [.int .i64 s.length, .nili]), f1 :: f0 :: setF F kA kb H.length (l ++ s) :: H) := by
 rw [write_ok hB.up.up hs hn, setB_up (by simp; omega), setB_up (by simp), setB_top]
theorem sv_cells (a : List Int) (ha : a.length ≤ 1000) (har : ∀ n ∈ a, -1 ≤ n ∧ n ≤ 1000) (p33 p34 p35 : PV) (kb : Nat) (Q : GX → GSt → Prop) : ∀ (k i : Nat) (l : List UInt8) (F f0 : Fr), i + k = a.length → Bl (F :: H) (H.length, kb) l → l ≠ [] → l.length + 22 * k ≤ 1099511627776 →
  (Q (.exit 2) ⟨[(1, .bptr (H.length, 1) 0), (5, .bptr (H.length, kb) 0), (33, .pure p33), (34, .pure p34), (35, .pure p35)], f0 :: (if i < a.length then setF F kA kb H.length (l ++ (a.drop i).flatMap cellS) else F) :: H, 64⟩) →
  WPL KC needT 20 (lp Tryz.f20 1) [1, 5, 33, 34, 35, 40, 41, 42] [1, 5, 33, 34, 35] Q [(1, .bptr (H.length, 1) 0), (5, .bptr (H.length, kb) 0), (33, .pure p33), (34, .pure p34), (35, .pure p35), (40, .pure (.slice (a.map irow))), (41, .pure (.int .i64 a.length)), (42, .pure (.int .i64 i))] (f0 :: F :: H) 64 := by
 intro k
 induction k with
 | zero =>
  intro i l F f0 hi hB hne hb h1
  have hia : ¬ i < a.length := by omega
  apply WPL_step
  conv => arg 4; whnf
  simp [hia]
  simpa [hia] using h1
 | succ k ih =>
  intro i l F f0 hi hB hne hb h1
  have hia : i < a.length := by omega
  have hw := w64 (x := (i : Int) + 1) (by omega) (by omega)
  have hd : a.drop i = a[i] :: a.drop (i + 1) := List.drop_eq_getElem_cons hia
  have hri := har a[i] (List.getElem_mem hia)
  have hs : (a.drop i).flatMap cellS = cellS a[i] ++ (a.drop (i + 1)).flatMap cellS := by rw [hd]; rfl
  rw [hs, ← List.append_assoc, if_pos hia] at h1
  have hcs := cellS_len a[i]
  have hc0 : cellS a[i] ≠ [] := by unfold cellS; split <;> simp
  have hB1 := hB.setF (l' := l ++ cellS a[i]) (by simp [hne])
  have ih' := ih (i + 1) (l ++ cellS a[i]) (setF F kA kb H.length (l ++ cellS a[i])) f0 (by omega) hB1 (by simp [hne]) (by simp; omega) (by
   split
   ·rw [setF_setF hB (by simp [hne])]; exact h1
   ·have : a.drop (i + 1) = [] := List.drop_eq_nil_of_le (by omega)
    rw [this] at h1
    simpa using h1)
  have hp := fun f1 c => wr_up2 (c := c) (f0 := f0) (f1 := f1) (s := cellS a[i]) hB hc0 (by omega)
  apply WPL_step
  conv => arg 4; whnf
  have il := itoaL_len a[i]
  by_cases hn : a[i] < 0
  ·have e1 : cellS a[i] = [32, 45] := by unfold cellS; rw [if_pos hn]
   rw [e1] at ih' hp
   simp at hp ih'
   simp [hia, irow, hn, hp, hw]
   simpa using ih'
  ·have e1 : cellS a[i] = 32 :: itoaL a[i] := by unfold cellS; rw [if_neg hn]
   rw [e1] at ih' hp
   have hI : ∀ c G, 0 < List.length G → gcall KC (geval KC) 51 [.pure (.int .i64 a[i])] c G = some (.pure (.str (itoaL a[i])), G) := fun c G hG => itoa_ok (by omega) (by omega) hG
   have l1 : (itoaL a[i]).length + 1 ≤ 4611686018427387904 := by omega
   have l2 : 1 + (itoaL a[i]).length ≤ 4611686018427387904 := by omega
   simp at hp ih'
   simp [hia, irow, hn, hp, hw, hI, l1, l2]
   simpa using ih'
theorem sv_rows (t : Tab) (hl : t.answers.length ≤ 1000) (ha : ∀ a ∈ t.answers, a.length ≤ 1000 ∧ ∀ n ∈ a, -1 ≤ n ∧ n ≤ 1000) (kb : Nat) (Q : GX → GSt → Prop) : ∀ (k i : Nat) (l : List UInt8) (F : Fr), i + k = t.answers.length → Bl (F :: H) (H.length, kb) l → l ≠ [] → l.length + 22006 * k ≤ 1099511627776 →
  (Q (.exit 0) ⟨[(1, .bptr (H.length, 1) 0), (5, .bptr (H.length, kb) 0)], (if i < t.answers.length then setF F kA kb H.length (l ++ (t.answers.drop i).flatMap gRow) else F) :: H, 64⟩) →
  WPL KC needT 20 (lp Tryz.f20 0) [1, 5, 33, 34, 35] [1, 5] Q [(1, .bptr (H.length, 1) 0), (5, .bptr (H.length, kb) 0), (33, .pure (.slice (t.answers.map arow))), (34, .pure (.int .i64 t.answers.length)), (35, .pure (.int .i64 i))] (F :: H) 64 := by
 intro k
 induction k with
 | zero =>
  intro i l F hi hB hne hb h1
  have hia : ¬ i < t.answers.length := by omega
  apply WPL_step
  conv => arg 4; whnf
  simp [hia]
  simpa [hia] using h1
 | succ k ih =>
  intro i l F hi hB hne hb h1
  have hia : i < t.answers.length := by omega
  have hw := w64 (x := (i : Int) + 1) (by omega) (by omega)
  have hd : t.answers.drop i = t.answers[i] :: t.answers.drop (i + 1) := List.drop_eq_getElem_cons hia
  have hri := ha t.answers[i] (List.getElem_mem hia)
  generalize hA : t.answers[i] = a at *
  have hs : (t.answers.drop i).flatMap gRow = gRow a ++ (t.answers.drop (i + 1)).flatMap gRow := by rw [hd]; rfl
  rw [hs, ← List.append_assoc, if_pos hia] at h1
  have hcs := gRow_len a
  have hc0 : gRow a ≠ [] := by unfold gRow; simp [guestW]
  have hcl := flat_len cellS_len a
  have hB1 := hB.setF (l' := l ++ guestW) (by simp [hne])
  have hB2 := hB.setF (l' := l ++ guestW ++ a.flatMap cellS) (by simp [hne])
  have hB3 := hB.setF (l' := l ++ gRow a) (by simp [hne])
  have ih' := ih (i + 1) (l ++ gRow a) (setF F kA kb H.length (l ++ gRow a)) (by omega) hB3 (by simp [hne]) (by simp; omega) (by
   split
   ·rw [setF_setF hB (by simp [hne])]; exact h1
   ·have : t.answers.drop (i + 1) = [] := List.drop_eq_nil_of_le (by omega)
    rw [this] at h1
    simpa using h1)
  have hp1 := fun f0 c => wr_up1 (c := c) (f0 := f0) (s := guestW) hB (by simp [guestW]) (by simp [guestW]; omega)
  have hp2 := fun f0 c => wr_up1 (c := c) (f0 := f0) (s := [10]) hB2 (by simp) (by simp [guestW] at hcl ⊢; omega)
  have e3 : l ++ guestW ++ a.flatMap cellS ++ [10] = l ++ gRow a := by simp [gRow]
  rw [e3, setF_setF hB (by simp [hne])] at hp2
  apply WPL_step
  conv => arg 4; whnf
  have h0 := fun f0 Q hq => sv_cells (H := H) a hri.1 hri.2 (.slice (t.answers.map arow)) (.int .i64 t.answers.length) (.int .i64 i) kb Q a.length 0 (l ++ guestW) (setF F kA kb H.length (l ++ guestW)) f0 (by omega) hB1 (by simp [hne]) (by simp [guestW]; omega) hq
  have eF : (if 0 < a.length then setF (setF F kA kb H.length (l ++ guestW)) kA kb H.length (l ++ guestW ++ (a.drop 0).flatMap cellS) else setF F kA kb H.length (l ++ guestW)) = setF F kA kb H.length (l ++ guestW ++ a.flatMap cellS) := by
   split
   ·rw [setF_setF hB (by simp [hne]), List.drop_zero]
   ·have : a = [] := List.length_eq_zero_iff.1 (by omega)
    subst this
    simp
  simp only [eF] at h0
  simp only [List.append_assoc] at hp2
  simp [guestW] at hp1
  simp [hia, arow, hA, hp1]
  refine h0 _ _ ?_
  simp [hp2, hw]
  simpa using ih'
theorem chkT_good {t : Tab} (h : chkT t = 0) : 1 ≤ t.packets ∧ t.packets ≤ 9 ∧ 0 ≤ t.passed ∧ t.passed ≤ t.packets ∧ 1 ≤ t.state ∧ t.state ≤ 4 ∧ t.answers ≠ [] ∧ t.answers.length ≤ 12 ∧ rowsE t.packets t.passed t.answers = 0 := by
 unfold chkT at h
 split at h
 ·omega
 ·split at h
  ·omega
  ·split at h
   ·omega
   ·split at h
    ·omega
    ·split at h
     ·omega
     ·split at h
      ·omega
      ·rename_i h1 h2 h3 h4 h5 h6
       simp [inB] at h1 h2 h3
       refine ⟨by omega, by omega, by omega, by omega, by omega, by omega, fun e => h4 (by rw [e]; rfl), by omega, by omega⟩
theorem rowsE_mem {p q : Int} : ∀ {l : List (List Int)}, rowsE p q l = 0 → ∀ a ∈ l, rowE p q a = 0
 | x :: l, h, a, ha => by
  unfold rowsE at h
  split at h
  ·rename_i hx; exact absurd h hx
  ·rename_i hx
   rcases List.mem_cons.1 ha with rfl | ha
   ·omega
   ·exact rowsE_mem h a ha
theorem save0 (t : Tab) (hs : Sm t) (hH : 0 < H.length) (h0 : chkT t = 0) (ha : ∀ a ∈ t.answers, a.length ≤ 1000 ∧ ∀ n ∈ a, -1 ≤ n ∧ n ≤ 1000) : gcall KC (geval KC) 20 [.pure (.agg t.row)] c H = some (.pure (.tuple [.str (saveS t), .int .i64 0]), H) := by
 refine WPv_eq (call_enter KC needT Tryz.func20 rfl rfl good20 rfl rfl rfl (by simp) hH ?_)
 have hC := fun c G (hG : 0 < List.length G) => chkT_ok (c := c) (H := G) t hs hG
 rw [h0] at hC
 obtain ⟨g1, g2, g3, g4, g5, g6, g7, g8, g9⟩ := chkT_good h0
 have hI : ∀ n : Int, 0 ≤ n ∧ n ≤ 1000 → ∀ c G, 0 < List.length G → gcall KC (geval KC) 51 [.pure (.int .i64 n)] c G = some (.pure (.str (itoaL n)), G) := fun n hn c G hG => itoa_ok (by omega) (by omega) hG
 have hI1 := hI t.packets (by omega)
 have hI2 := hI t.passed (by omega)
 have hI3 := hI t.answers.length (by omega)
 have k1 := itoaL_len t.packets
 have k2 := itoaL_len t.passed
 unfold Tab.row at hC
 have hst : t.state = 1 ∨ t.state = 2 ∨ t.state = 3 ∨ t.state = 4 := by omega
 have hhd : headS t = tableW ++ 32 :: itoaL t.packets ++ 32 :: itoaL t.passed ++ 32 :: stW t.state ++ [10] := rfl
 unfold saveS
 rw [hhd]
 generalize itoaL t.packets = P at *
 generalize itoaL t.passed = R at *
 have f1 : ∀ k, 1000 ≤ k → P.length ≤ k := fun k hk => by omega
 have f2 : ∀ k, 1000 ≤ k → P.length + R.length ≤ k := fun k hk => by omega
 have f3 : ∀ m k, m ≤ 100 → 1000 ≤ k → P.length + m + R.length ≤ k := fun m k h1 h2 => by omega
 have f4 : ∀ m k, m ≤ 100 → 1000 ≤ k → P.length + (R.length + m) ≤ k := fun m k h1 h2 => by omega
 have f6 : P.length + 1 + 1 + 1 + 1 + 1 + 1 + 1 + R.length ≤ 4611686018427387904 := by omega
 have f5 : ∀ m k, m ≤ 100 → 1000 ≤ k → m + P.length ≤ k := fun m k h1 h2 => by omega
 have f7 : ∀ k, 1000 ≤ k → P.length + (R.length + 1 + 1) ≤ k := fun k hk => by omega
 have hne1 : kB ≠ kA := tyB_ne
 have hkB : kB = 1329227995784915872903807060280774661 := by rw [kB_def]; simp
 have hbx : ∀ x : GV, Fr.get ([(1, .box [.pure (.int .i64 t.packets), .pure (.int .i64 t.passed), x, .pure (.slice (t.answers.map arow))]), (kB, .box [.pure .nilp, .nils])] : Fr) 1 = some (.box [.pure (.int .i64 t.packets), .pure (.int .i64 t.passed), x, .pure (.slice (t.answers.map arow))]) := fun x => by simp
 have hB0 : ∀ x : GV, Bl (([(1, .box [.pure (.int .i64 t.packets), .pure (.int .i64 t.passed), x, .pure (.slice (t.answers.map arow))]), (kB, .box [.pure .nilp, .nils])] : Fr) :: H) (H.length, kB) [] := fun x => by
  refine ⟨⟨by simp, hne1, ⟨_, .inl rfl, ?_⟩, fun h => absurd rfl h, fun _ => ?_⟩, kB_name⟩
  ·simp [Ne.symm ty1B, apS_nil]
  ·simp [Ne.symm ty1A, Ne.symm hne1]
 have hd1 : ∀ (x : GV) (s : List UInt8), s ≠ [] → s.length ≤ 1000 → ∃ F1, (∀ c, gcall KC (geval KC) 50 [.bptr (H.length, 1329227995784915872903807060280774661) 0, .pure (.str s)] c ([(1, .box [.pure (.int .i64 t.packets), .pure (.int .i64 t.passed), x, .pure (.slice (t.answers.map arow))]), (1329227995784915872903807060280774661, .box [.pure .nilp, .nils])] :: H) = some (.pure (.tuple [.int .i64 s.length, .nili]), F1 :: H)) ∧
   Bl (F1 :: H) (H.length, 1329227995784915872903807060280774661) s ∧ F1.get 1 = some (.box [.pure (.int .i64 t.packets), .pure (.int .i64 t.passed), x, .pure (.slice (t.answers.map arow))]) := fun x s h1 h2 => by
  rw [← hkB]
  refine ⟨_, fun c => wr_top (c := c) (s := s) (hB0 x) h1 (by simp; omega), ?_, ?_⟩
  ·exact (hB0 x).setF h1
  ·rw [setF_get ty1A ty1B]; exact hbx x
 have rows : ∀ (F1 : Fr) (x : GV) (s : List UInt8), s ≠ [] → s.length ≤ 1000 → Bl (F1 :: H) (H.length, 1329227995784915872903807060280774661) s → F1.get 1 = some (.box [.pure (.int .i64 t.packets), .pure (.int .i64 t.passed), x, .pure (.slice (t.answers.map arow))]) →
   ∃ F2, Bl (F2 :: H) (H.length, 1329227995784915872903807060280774661) (s ++ t.answers.flatMap gRow) ∧ F2.get 1 = some (.box [.pure (.int .i64 t.packets), .pure (.int .i64 t.passed), x, .pure (.slice (t.answers.map arow))]) ∧
   ∀ Q : GX → GSt → Prop, Q (.exit 0) ⟨[(1, .bptr (H.length, 1) 0), (5, .bptr (H.length, 1329227995784915872903807060280774661) 0)], F2 :: H, 64⟩ → WPL KC needT 20 (lp Tryz.f20 0) [1, 5, 33, 34, 35] [1, 5] Q [(1, .bptr (H.length, 1) 0), (5, .bptr (H.length, 1329227995784915872903807060280774661) 0), (33, .pure (.slice (t.answers.map arow))), (34, .pure (.int .i64 t.answers.length)), (35, .pure (.int .i64 0))] (F1 :: H) 64 := fun F1 x s h1 h2 hB hE => by
  have hl0 : 0 < t.answers.length := List.length_pos_iff.2 g7
  refine ⟨setF F1 kA 1329227995784915872903807060280774661 H.length (s ++ t.answers.flatMap gRow), hB.setF (by simp [h1]), ?_, fun Q hq => ?_⟩
  ·rw [setF_get ty1A (by decide)]; exact hE
  ·have := sv_rows (H := H) t (by omega) ha 1329227995784915872903807060280774661 Q t.answers.length 0 s F1 (by omega) hB h1 (by omega) (by rw [if_pos hl0, List.drop_zero]; exact hq)
   simpa using this
 have hlr := rows_len (m := 1000) (fun a h => (ha a h).1)
 have hll := lastS_len t.answers.length
 have endk : ∀ (F2 : Fr) (l : List UInt8), Bl (F2 :: H) (H.length, 1329227995784915872903807060280774661) l → l.length ≤ 1000000000 → l ≠ [] → ∃ F3 F4, (∀ c, gcall KC (geval KC) 50 [.bptr (H.length, 1329227995784915872903807060280774661) 0, .pure (.str (lastS t.answers.length))] c (F2 :: H) = some (.pure (.tuple [.int .i64 (lastS t.answers.length).length, .nili]), F3 :: H)) ∧
   (∀ c, gcall KC (geval KC) 52 [.bptr (H.length, 1329227995784915872903807060280774661) 0] c (F3 :: H) = some (.pure (.str (l ++ lastS t.answers.length)), F4 :: H)) := fun F2 l hB hl hne => by
  have hq : lastS t.answers.length ≠ [] := by simp [lastS, endW]
  have e3 := fun c => wr_top (c := c) (s := lastS t.answers.length) hB hq (by omega)
  have e4 := fun c => string_ok (c := c) (hB.setF (l' := l ++ lastS t.answers.length) (by simp [hne])) (by simp [hne]) (by simp; omega)
  simp only [Heap.set_cons', if_true] at e4
  exact ⟨_, _, e3, e4⟩
 have f8 : ∀ m k, m ≤ 100 → 1000 ≤ k → P.length + (R.length + m + 1) ≤ k := fun m k h1 h2 => by omega
 have hil := itoaL_len t.answers.length
 have f9 : 4 + (itoaL t.answers.length).length ≤ 4611686018427387904 := by omega
 have f10 : ∀ k, 1000 ≤ k → (itoaL t.answers.length).length ≤ k := fun k hk => by omega
 rcases hst with hst | hst | hst | hst
 ·rw [hst] at hC ⊢
  obtain ⟨F1, hp, hB1, hE1⟩ := hd1 (.pure (.int .i64 1)) (tableW ++ 32 :: P ++ 32 :: R ++ 32 :: stW 1 ++ [10]) (by simp) (by simp [tableW, stW]; omega)
  obtain ⟨F2, hB2, hE2, hR⟩ := rows F1 _ _ (by simp) (by simp [tableW, stW]; omega) hB1 hE1
  obtain ⟨F3, F4, hp3, hp4⟩ := endk F2 _ hB2 (by simp [tableW, stW] at hlr ⊢; omega) (by simp)
  simp [tableW, stW] at hp
  simp [lastS, endW] at hp3
  simp [Tab.row, hC, hI1, hI2, f1, f2, f3, f4, f5, f6, f7, f8, hst, hp, hE1]
  refine hR _ ?_
  simp [hE2, hI3, hp3, hp4, f9, f10, gleave_free]
 ·rw [hst] at hC ⊢
  obtain ⟨F1, hp, hB1, hE1⟩ := hd1 (.pure (.int .i64 2)) (tableW ++ 32 :: P ++ 32 :: R ++ 32 :: stW 2 ++ [10]) (by simp) (by simp [tableW, stW]; omega)
  obtain ⟨F2, hB2, hE2, hR⟩ := rows F1 _ _ (by simp) (by simp [tableW, stW]; omega) hB1 hE1
  obtain ⟨F3, F4, hp3, hp4⟩ := endk F2 _ hB2 (by simp [tableW, stW] at hlr ⊢; omega) (by simp)
  simp [tableW, stW] at hp
  simp [lastS, endW] at hp3
  simp [Tab.row, hC, hI1, hI2, f1, f2, f3, f4, f5, f6, f7, f8, hst, hp, hE1]
  refine hR _ ?_
  simp [hE2, hI3, hp3, hp4, f9, f10, gleave_free]
 ·rw [hst] at hC ⊢
  obtain ⟨F1, hp, hB1, hE1⟩ := hd1 (.pure (.int .i64 3)) (tableW ++ 32 :: P ++ 32 :: R ++ 32 :: stW 3 ++ [10]) (by simp) (by simp [tableW, stW]; omega)
  obtain ⟨F2, hB2, hE2, hR⟩ := rows F1 _ _ (by simp) (by simp [tableW, stW]; omega) hB1 hE1
  obtain ⟨F3, F4, hp3, hp4⟩ := endk F2 _ hB2 (by simp [tableW, stW] at hlr ⊢; omega) (by simp)
  simp [tableW, stW] at hp
  simp [lastS, endW] at hp3
  simp [Tab.row, hC, hI1, hI2, f1, f2, f3, f4, f5, f6, f7, f8, hst, hp, hE1]
  refine hR _ ?_
  simp [hE2, hI3, hp3, hp4, f9, f10, gleave_free]
 ·rw [hst] at hC ⊢
  obtain ⟨F1, hp, hB1, hE1⟩ := hd1 (.pure (.int .i64 4)) (tableW ++ 32 :: P ++ 32 :: R ++ 32 :: stW 4 ++ [10]) (by simp) (by simp [tableW, stW]; omega)
  obtain ⟨F2, hB2, hE2, hR⟩ := rows F1 _ _ (by simp) (by simp [tableW, stW]; omega) hB1 hE1
  obtain ⟨F3, F4, hp3, hp4⟩ := endk F2 _ hB2 (by simp [tableW, stW] at hlr ⊢; omega) (by simp)
  simp [tableW, stW] at hp
  simp [lastS, endW] at hp3
  simp [Tab.row, hC, hI1, hI2, f1, f2, f3, f4, f5, f6, f7, f8, hst, hp, hE1]
  refine hR _ ?_
  simp [hE2, hI3, hp3, hp4, f9, f10, gleave_free]
end
section
variable {c : Nat} {H : Heap}
def numA (w : List UInt8) : Int := match Lib.atoiAll w with | .ok n => n | .range => Lib.atoiSat w | _ => 0
noncomputable def numB (w : List UInt8) : Bool := (numV w).isSome
theorem numA_of {w : List UInt8} {n : Int} (h : numV w = some n) : numA w = n := by
 rw [numV_def] at h
 unfold numA
 split at h
 ·rename_i m hm
  rw [hm]
  split at h
  ·simpa using h
  ·cases h
 ·cases h
noncomputable def lbN (S : Slots) (st : LoopState) (p : Option GX) : GLoop := { slots := S, nt := 13, params := [9, 10], assign := rgA Tryz.f70, body := rgB Tryz.f70, fn := 70, state := st, pending := p }
def frN (n : Int) (b : Bool) (l : GLoop) : Fr := [(2, .box [.pure (.int .i64 n)]), (3, .box [.pure (.bool b)]), (10000005, .loop l)]
theorem roundN {n0 n : Int} {b0 b : Bool} {S : Slots} (f0 f1 : Fr) (h2 : look S 2 = .bptr (H.length, 2) 0) (h3 : look S 3 = .bptr (H.length, 3) 0) :
  ground (geval KC) (H.length, 10000005) [.pure (.int .i64 n), .pure (.bool b)] (f1 :: f0 :: frN n0 b0 (lbN S .ready none) :: H) =
   some (.pure (.bool false), f1 :: f0 :: frN n b (lbN S .done (some .ret)) :: H) := by
 refine WPv_eq (ground_wp KC needT (l := lbN S .ready none) (s := (10, .pure (.bool b)) :: (9, .pure (.int .i64 n)) :: S) ?_ rfl ?_ ?_ ?_ ?_)
 ·simp [frN]
 ·simp [lbN, putParams]
 ·kernel_rfl
 ·kernel_rfl
 ·show wp KC needT 70 (rgA Tryz.f70) _ _
  conv => arg 4; whnf
  simp [roundMid, lbN, frN]
  conv => arg 4; whnf
  simp [h2, h3, roundEnd]
theorem nums1_ok {w : List UInt8} (hw : w.length ≤ 281474976710656) {S : Slots} (h2 : look S 2 = .bptr (H.length, 2) 0) (h3 : look S 3 = .bptr (H.length, 3) 0) (n0 : Int) (b0 : Bool) :
  gcall KC (geval KC) 135 [.yield (H.length, 10000005), .pptr [.slice [[.str w]]]] c (frN n0 b0 (lbN S .ready none) :: H) = some (.pure (.tuple []), frN (numA w) (numB w) (lbN S .done (some .ret)) :: H) := by
 refine WPv_eq (call_enter KC needT Tryz.func135 rfl rfl good135 rfl rfl rfl (by simp) (by simp) ?_)
 have hat : ∀ c G, 0 < List.length G → gcall KC (geval KC) 95 [.pure (.str w)] c G = extAtoi 222 [.pure (.str w)] G := fun c G hG =>
  gcall_ext KC (e := extAtoi 222) (by kernel_rfl) (by rfl) hG
 unfold extAtoi at hat
 simp only [hw, if_true] at hat
 have hr := fun n b => roundN (n0 := n0) (b0 := b0) (n := n) (b := b) [] [] h2 h3
 have hB : numB w = (numV w).isSome := rfl
 have hV := numV_def w
 have ec : canon (GV.pptr [.slice [[.str w]]]) = .pptr [.slice [[.str w]]] := rfl
 simp [ec]
 apply WPL_step
 conv => arg 4; whnf
 cases hA : Lib.atoiAll w with
 | ok n =>
  have hA' : numA w = n := by unfold numA; rw [hA]
  rw [hA] at hat hV
  simp only at hV
  by_cases c1 : n < 0
  ·rw [if_neg (by omega)] at hV
   rw [hA', hB, hV]
   have c1' : ¬ 0 ≤ n := by omega
   simp [hat, c1, c1', hr, gleave_free]
  ·have c1' : 0 ≤ n := by omega
   by_cases c2 : 4 < w.length
   ·rw [if_neg (by omega)] at hV
    have c2' : (4 : Int) < w.length := by omega
    have c4 : ¬ (w.length : Int) ≤ 4 := by omega
    rw [hA', hB, hV]
    simp [hat, c1, c1', c2, c2', c4, hr, gleave_free]
   ·have c2' : ¬ (4 : Int) < w.length := by omega
    have c4 : (w.length : Int) ≤ 4 := by omega
    have hrg := atoi_rng hA
    have hI : ∀ c G, 0 < List.length G → gcall KC (geval KC) 51 [.pure (.int .i64 n)] c G = some (.pure (.str (itoaL n)), G) := fun c G hG => itoa_ok hrg.1 hrg.2 hG
    by_cases c3 : itoaL n = w
    ·rw [if_pos ⟨by omega, by omega, c3⟩] at hV
     rw [hA', hB, hV]
     rw [c3] at hI
     simp [hat, c1, c1', c2, c2', c4, hI, c3, hr, gleave_free]
    ·rw [if_neg (fun h => c3 h.2.2)] at hV
     have c3' : ¬ w = itoaL n := fun h => c3 h.symm
     have c5 : (itoaL n == w) = false := by simpa using c3
     rw [hA', hB, hV]
     simp [hat, c1, c1', c2, c2', c4, hI, c3, c3', c5, hr, gleave_free]
 | range =>
  have hA' : numA w = Lib.atoiSat w := by unfold numA; rw [hA]
  rw [hA] at hat hV
  simp only at hV
  rw [hA', hB, hV]
  simp [hat, hr, gleave_free]
 | _ =>
  have hA' : numA w = 0 := by unfold numA; rw [hA]
  rw [hA] at hat hV
  simp only at hV
  rw [hA', hB, hV]
  simp [hat, hr, gleave_free]
theorem numbersC_ok (l : List (List PV)) (hH : 0 < H.length) : gcall KC (geval KC) 105 [.pure (.slice l)] c H = some (.func 135 [] [.pptr [.slice l]], H) := by
 refine WPv_eq (call_enter KC needT Tryz.func105 rfl rfl good105 rfl rfl rfl (by simp) hH ?_)
 have hnl : ¬ H.length ≤ H.length - 1 := by omega
 simp [gleave_free, hnl]
 simp [capD, capsP, capP, hnl]
theorem number_range {w : List UInt8} (hw : w.length ≤ 281474976710656) (st : GSt) (Q : GX → GSt → Prop) (hh : st.h = [(2, .box [.pure (.int .i64 0)]), (3, .box [.pure (.bool false)])] :: H) (hnt : st.nt = 13)
  (h2 : look st.s 2 = .bptr (H.length, 2) 0) (h3 : look st.s 3 = .bptr (H.length, 3) 0) (h8 : look st.s 8 = .func 135 [] [.pptr [.slice [[.str w]]]])
  (hq : ∀ lb, Q .ret { st with h := frN (numA w) (numB w) lb :: H }) :
  WP KC needT 70 (.rangeFunc (.tmp 8) #[9, 10] (rgA Tryz.f70) (rgB Tryz.f70)) st Q := by
 have hfr : firstRegion (rgB Tryz.f70) = 5 := by kernel_rfl
 refine WP_range KC needT (nm := (H.length, 10000005)) (H1 := frN 0 false (lbN st.s .ready none) :: H) (H2 := frN (numA w) (numB w) (lbN st.s .done (some .ret)) :: H) (v := .pure (.tuple [])) ?_ ?_ ?_
 ·rw [hh, hfr, hnt]
  simp [gnewV, gnewU, frN, lbN]
 ·simp only [ev, h8]
  exact nums1_ok hw h2 h3 0 false
 ·have := hq (lbN st.s .exhausted (some .ret))
  simp [rangeEnd, lbN, frN] at this ⊢
  exact this
theorem numberV_ok {w : List UInt8} (hw : w.length ≤ 281474976710656) (hH : 0 < H.length) : gcall KC (geval KC) 70 [.pure (.str w)] c H = some (.pure (.tuple [.int .i64 (numA w), .bool (numB w)]), H) := by
 refine WPv_eq (call_enter KC needT Tryz.func70 rfl rfl good70 rfl rfl rfl (by simp) hH ?_)
 simp [numbersC_ok]
 refine number_range hw _ _ ?_ rfl rfl rfl rfl (fun lb => ?_)
 ·simp
 ·simp [frN, gleave_free]
end
section
variable {c : Nat} {H : Heap}
def posW (w : List UInt8) : List (List UInt8) → Int → Int
 | [], _ => -1
 | x :: l, i => if w = x then i else posW w l (i + 1)
theorem indexS_loop (l : List (List UInt8)) (w : List UInt8) (hn : l.length ≤ 1000000) (Q : GX → GSt → Prop) (hH : 0 < H.length) : ∀ k i : Nat, i + k = l.length →
  (posW w (l.drop i) i = -1 → Q (.exit 0) ⟨[(4, gdead)], H, 19⟩) → (∀ p, posW w (l.drop i) i = p → p ≠ -1 → Q .ret ⟨[(4, .pure (.int .i64 p))], H, 19⟩) →
  WPL KC needT 104 (lp Tryz.f104 0) [0, 1, 7, 8] [4] Q [(0, .pure (.slice (l.map srow))), (1, .pure (.str w)), (7, .pure (.int .i64 l.length)), (8, .pure (.int .i64 i))] H 19 := by
 intro k
 induction k with
 | zero =>
  intro i hi h1 h2
  have e : l.drop i = [] := List.drop_of_length_le (by omega)
  rw [e] at h1
  apply WPL_step
  conv => arg 4; whnf
  have : ¬ i < l.length := by omega
  simp [this, hH]
  exact h1 rfl
 | succ k ih =>
  intro i hi h1 h2
  have hia : i < l.length := by omega
  have hw := w64 (x := (i : Int) + 1) (by omega) (by omega)
  rw [List.drop_eq_getElem_cons hia] at h1 h2
  unfold posW at h1 h2
  apply WPL_step
  conv => arg 4; whnf
  by_cases he : w = l[i]
  ·rw [if_pos he] at h2
   have h2' := h2 i rfl (by omega)
   have he' : (w == l[i]) = true := by simpa using he
   simp [hia, hH, srow, ← he, hw]
   exact h2'
  ·rw [if_neg he] at h1 h2
   have he' : (w == l[i]) = false := by simpa using he
   have ih' := ih (i + 1) (by omega) (by simpa using h1) (by simpa using h2)
   simp [hia, hH, srow, he, he', hw]
   simpa using ih'
theorem indexS_ok (l : List (List UInt8)) (w : List UInt8) (hn : l.length ≤ 1000000) (hH : 0 < H.length) : gcall KC (geval KC) 104 [.pure (.slice (l.map srow)), .pure (.str w)] c H = some (.pure (.int .i64 (posW w l 0)), H) := by
 refine WPv_eq (call_enter KC needT Tryz.func104 rfl rfl good104 rfl rfl rfl (by simp) hH ?_)
 simp
 have h0 := fun Q h1 h2 => indexS_loop (H := [] :: H) l w hn Q (by simp) l.length 0 (by omega) h1 h2
 simp at h0
 refine h0 _ (fun h => ?_) (fun h => ?_)
 ·simp [h, gleave_free]
 ·simp [gleave_free]
def stL : List (List UInt8) := [[], [111, 112, 101, 110], [112, 97, 117, 115, 101, 100], [99, 108, 111, 115, 101, 100], [115, 104, 111, 119, 110]]
noncomputable def headV (ws : List (List UInt8)) : Option Tab := match ws with
 | [w0, w1, w2, w3] => if w0 = tableW then (match numV w1, numV w2 with | some a, some b => if 0 < posW w3 stL 0 then some ⟨a, b, posW w3 stL 0, []⟩ else none | _, _ => none) else none
 | _ => none
def tabG (t : Tab) : GV := .agg [.pure (.int .i64 t.packets), .pure (.int .i64 t.passed), .pure (.int .i64 t.state), .nils]
def headT (ws : List (List UInt8)) : Tab := match ws with
 | [w0, w1, w2, w3] => if w0 = tableW then ⟨numA w1, numA w2, posW w3 stL 0, []⟩ else ⟨0, 0, 0, []⟩
 | _ => ⟨0, 0, 0, []⟩
theorem headT_of {ws : List (List UInt8)} {t : Tab} (h : headV ws = some t) : headT ws = t := by
 unfold headV at h
 split at h
 ·rename_i w0 w1 w2 w3
  split at h
  ·rename_i h0
   split at h
   ·rename_i a b ha hb
    split at h
    ·simp only [Option.some.injEq] at h
     subst h
     show (if w0 = tableW then _ else _) = _
     rw [if_pos h0, numA_of ha, numA_of hb]
    ·cases h
   ·cases h
  ·cases h
 ·cases h
theorem headV_nil {ws : List (List UInt8)} {t : Tab} (h : headV ws = some t) : t.answers = [] := by
 have := headT_of h
 subst this
 unfold headT
 split
 ·split <;> rfl
 ·rfl
theorem head_ok (ws : List (List UInt8)) (hn : ws.length ≤ 1000000) (hsz : ∀ w ∈ ws, w.length ≤ 281474976710656) (hH : 0 < H.length) : gcall KC (geval KC) 68 [.pure (.slice (ws.map srow))] c H = some (.tuple [tabG (headT ws), .pure (.bool (headV ws).isSome)], H) := by
 refine WPv_eq (call_enter KC needT Tryz.func68 rfl rfl good68 rfl rfl rfl (by simp) hH ?_)
 by_cases h4 : ws.length = 4
 ·match ws, h4 with
  | [w0, w1, w2, w3], _ =>
   by_cases h0 : w0 = tableW
   ·subst h0
    have N1 := fun c G (hG : 0 < List.length G) => numberV_ok (c := c) (H := G) (w := w1) (hsz w1 (by simp)) hG
    have N2 := fun c G (hG : 0 < List.length G) => numberV_ok (c := c) (H := G) (w := w2) (hsz w2 (by simp)) hG
    have I := fun c G (hG : 0 < List.length G) => indexS_ok (c := c) (H := G) stL w3 (by decide) hG
    simp [stL, srow] at I
    have hgs : gslice KC 129 (.pptr [.str [], .str [111, 112, 101, 110], .str [112, 97, 117, 115, 101, 100], .str [99, 108, 111, 115, 101, 100], .str [115, 104, 111, 119, 110]]) none none none = some (.pure (.slice [[.str []], [.str [111, 112, 101, 110]], [.str [112, 97, 117, 115, 101, 100]], [.str [99, 108, 111, 115, 101, 100]], [.str [115, 104, 111, 119, 110]]])) := by kernel_rfl
    have eV : headV [tableW, w1, w2, w3] = (match numV w1, numV w2 with | some a, some b => if 0 < posW w3 stL 0 then some ⟨a, b, posW w3 stL 0, []⟩ else none | _, _ => none) := by
     unfold headV
     show (if tableW = tableW then _ else _) = _
     rw [if_pos rfl]
    have eT : tabG (headT [tableW, w1, w2, w3]) = .agg [.pure (.int .i64 (numA w1)), .pure (.int .i64 (numA w2)), .pure (.int .i64 (posW w3 stL 0)), .nils] := rfl
    have B1 : numB w1 = (numV w1).isSome := rfl
    have B2 : numB w2 = (numV w2).isSome := rfl
    rw [eV, eT]
    simp only [stL]
    cases v1 : numV w1 with
    | none =>
     rw [v1] at B1
     simp [srow, tableW, N1, N2, I, hgs, B1, B2, gleave_keep, KC_keep, refs, refs2, refs1, deepRefs, boxRefs, matRefs, dedup, moveOut, cleanBlk, clM, ren, ren2, ren1]
    | some a =>
     cases v2 : numV w2 with
     | none =>
      rw [v1] at B1
      rw [v2] at B2
      simp [srow, tableW, N1, N2, I, hgs, B1, B2, gleave_keep, KC_keep, refs, refs2, refs1, deepRefs, boxRefs, matRefs, dedup, moveOut, cleanBlk, clM, ren, ren2, ren1]
     | some b =>
      rw [v1] at B1
      rw [v2] at B2
      by_cases hp0 : 0 < posW w3 [[], [111, 112, 101, 110], [112, 97, 117, 115, 101, 100], [99, 108, 111, 115, 101, 100], [115, 104, 111, 119, 110]] 0
      ·simp [srow, tableW, N1, N2, I, hgs, B1, B2, hp0, gleave_keep, KC_keep, refs, refs2, refs1, deepRefs, boxRefs, matRefs, dedup, moveOut, cleanBlk, clM, ren, ren2, ren1]
      ·simp [srow, tableW, N1, N2, I, hgs, B1, B2, hp0, gleave_keep, KC_keep, refs, refs2, refs1, deepRefs, boxRefs, matRefs, dedup, moveOut, cleanBlk, clM, ren, ren2, ren1]
   ·have eV : headV [w0, w1, w2, w3] = none := by
     unfold headV
     show (if w0 = tableW then _ else _) = _
     rw [if_neg h0]
    have eT : tabG (headT [w0, w1, w2, w3]) = .agg [.pure (.int .i64 0), .pure (.int .i64 0), .pure (.int .i64 0), .nils] := by
     unfold headT
     show tabG (if w0 = tableW then _ else _) = _
     rw [if_neg h0]
     rfl
    rw [eV, eT]
    simp only [tableW] at h0
    simp [srow, h0, gleave_keep, KC_keep, refs, refs2, refs1, deepRefs, boxRefs, matRefs, dedup, moveOut, cleanBlk, clM, ren, ren2, ren1]
 ·have h4' : ¬ (ws.length : Int) = 4 := by omega
  have eV : headV ws = none := by
   unfold headV
   split
   ·simp at h4
   ·rfl
  have eT : tabG (headT ws) = .agg [.pure (.int .i64 0), .pure (.int .i64 0), .pure (.int .i64 0), .nils] := by
   unfold headT
   split
   ·simp at h4
   ·rfl
  rw [eV, eT]
  simp [h4, h4', gleave_keep, KC_keep, refs, refs2, refs1, deepRefs, boxRefs, matRefs, dedup, moveOut, cleanBlk, clM, ren, ren2, ren1]
noncomputable def cellV (w : List UInt8) : Option Int := if w = [45] then some (-1) else numV w
noncomputable def cellsV : List (List UInt8) → Option (List Int)
 | [] => some []
 | w :: r => match cellV w with | none => none | some n => match cellsV r with | none => none | some l => some (n :: l)
theorem apK_any {d q : Nat} {rows : List (List PV)} {r : List PV} {f0 : Fr} (hr : rows ≠ []) (hb : (rows.length + 1) * 8 ≤ 1099511627776) (hq : q < tyBase) :
  apK H.length d (apS (H.length, q) 1 rows) 1 8 [r] (f0 :: apF q 1 rows [] :: H) = some (apS (H.length, q) 1 (rows ++ [r]), f0 :: apF q 1 (rows ++ [r]) [] :: H) := by
 have h := apK_apS (l := H.length) (key := q) (es := 1) (bytes := 8) (rows := rows) (r := r) (H' := f0 :: apF q 1 rows [] :: H) (fun h => absurd h hr) (fun h => by simp [apF_self h]) (by simp; omega) hb hq
 have e : ∀ d, apK H.length d (apS (H.length, q) 1 rows) 1 8 [r] (f0 :: apF q 1 rows [] :: H) = apK H.length q (apS (H.length, q) 1 rows) 1 8 [r] (f0 :: apF q 1 rows [] :: H) := fun d => by
  unfold apS
  rw [if_neg hr, apK_hdr, apK_hdr]
 rw [e, h]
 simp
 unfold apF
 simp [hr, Fr.ins_ins]
theorem guest_loop (ws : List (List UInt8)) (hn : ws.length ≤ 1000000) (hsz : ∀ w ∈ ws, w.length ≤ 281474976710656) (Q : GX → GSt → Prop) (hH : 0 < H.length) : ∀ (k i : Nat) (acc : List Int) (q : Nat), (q = 19 ∨ q = 30) → i + k = ws.length → acc.length + k ≤ 1000000 →
  (∀ q ns, (q = 19 ∨ q = 30) → cellsV (ws.drop i) = some ns → Q (.exit 0) ⟨[(2, gdead), (3, gdead), (4, apS (H.length, q) 1 ((acc ++ ns).map irow))], apF q 1 ((acc ++ ns).map irow) [] :: H, 33⟩) →
  (∀ q rows, (q = 19 ∨ q = 30) → cellsV (ws.drop i) = none → Q .ret ⟨[(2, .nils), (3, .pure (.bool false)), (4, apS (H.length, q) 1 rows)], apF q 1 rows [] :: H, 33⟩) →
  WPL KC needT 69 (lp Tryz.f69 0) [4, 9, 10, 11] [2, 3, 4] Q [(4, apS (H.length, q) 1 (acc.map irow)), (9, .pure (.slice (ws.map srow))), (10, .pure (.int .i64 ws.length)), (11, .pure (.int .i64 i))] (apF q 1 (acc.map irow) [] :: H) 33 := by
 intro k
 induction k with
 | zero =>
  intro i acc q hq hi hb h1 h2
  have hia : ¬ i < ws.length := by omega
  have e1 : ws.drop i = [] := List.drop_of_length_le (by omega)
  rw [e1] at h1
  have h1' := h1 q [] hq rfl
  rw [List.append_nil] at h1'
  apply WPL_step
  conv => arg 4; whnf
  simp [hia]
  exact h1'
 | succ k ih =>
  intro i acc q hq hi hb h1 h2
  have hia : i < ws.length := by omega
  have hw := w64 (x := (i : Int) + 1) (by omega) (by omega)
  have hd : ws.drop i = ws[i] :: ws.drop (i + 1) := List.drop_eq_getElem_cons hia
  have hsi := hsz ws[i] (List.getElem_mem hia)
  have N1 := fun c G (hG : 0 < List.length G) => numberV_ok (c := c) (H := G) (w := ws[i]) hsi hG
  have B1 : numB ws[i] = (numV ws[i]).isSome := rfl
  have hb' : (acc.length + 1) * 8 ≤ 1099511627776 := by omega
  have hqt : q < tyBase := by rcases hq with rfl | rfl <;> simp
  have hap : ∀ (d : Nat) (x : Int), (d = 19 ∨ d = 30) → ∃ q', (q' = 19 ∨ q' = 30) ∧ ∀ f0 : Fr, apK H.length d (apS (H.length, q) 1 (acc.map irow)) 1 8 [[.int .i64 x]] (f0 :: apF q 1 (acc.map irow) [] :: H) = some (apS (H.length, q') 1 ((acc ++ [x]).map irow), f0 :: apF q' 1 ((acc ++ [x]).map irow) [] :: H) := fun d x hdd => by
   by_cases ha : acc = []
   ·subst ha
    refine ⟨d, hdd, fun f0 => ?_⟩
    have hdt : d < tyBase := by rcases hdd with rfl | rfl <;> simp
    have := apK_1 (key := d) (es := 1) (rows := []) (fr := []) (H := H) (l := H.length) (bytes := 8) (r := [.int .i64 x]) (f0 := f0) rfl rfl (by simp) hdt
    simpa [apS_nil, apF_nil, irow] using this
   ·refine ⟨q, hq, fun f0 => ?_⟩
    rw [apK_any (by simpa using ha) (by simpa using hb') hqt]
    simp [irow]
  rw [hd] at h1 h2
  have step : ∀ (x : Int) (q' : Nat), (q' = 19 ∨ q' = 30) → cellV ws[i] = some x → WPL KC needT 69 (lp Tryz.f69 0) [4, 9, 10, 11] [2, 3, 4] Q [(4, apS (H.length, q') 1 ((acc ++ [x]).map irow)), (9, .pure (.slice (ws.map srow))), (10, .pure (.int .i64 ws.length)), (11, .pure (.int .i64 (i + 1 : Nat)))] (apF q' 1 ((acc ++ [x]).map irow) [] :: H) 33 := fun x q' hq' hx =>
   ih (i + 1) (acc ++ [x]) q' hq' (by omega) (by simp; omega) (fun q ns hq h => by
    rw [List.append_assoc]
    exact h1 q (x :: ns) hq (by simp only [cellsV, hx, h])) (fun q rows hq h => h2 q rows hq (by simp only [cellsV, hx, h]))
  apply WPL_step
  conv => arg 4; whnf
  by_cases hm : ws[i] = [45]
  ·have hc : cellV ws[i] = some (-1) := by unfold cellV; rw [if_pos hm]
   obtain ⟨q', hq', ha⟩ := hap 19 (-1) (.inl rfl)
   have st := step (-1) q' hq' hc
   generalize apS (H.length, q) 1 (acc.map irow) = g0 at *
   generalize apF q 1 (acc.map irow) [] = F0 at *
   simp [hia, srow, hm, hw, ha]
   simpa using st
  ·have hm' : (ws[i] == [45]) = false := by simpa using hm
   cases hv : numV ws[i] with
   | none =>
    have hc : cellV ws[i] = none := by unfold cellV; rw [if_neg hm, hv]
    rw [hv] at B1
    have h2' := h2 q (acc.map irow) hq (by simp only [cellsV, hc])
    simp [hia, srow, hm, hm', hw, N1, B1]
    exact h2'
   | some n =>
    have hc : cellV ws[i] = some n := by unfold cellV; rw [if_neg hm, hv]
    rw [hv] at B1
    rw [numA_of hv] at N1
    obtain ⟨q', hq', ha⟩ := hap 30 n (.inr rfl)
    have st := step n q' hq' hc
    generalize apS (H.length, q) 1 (acc.map irow) = g0 at *
    generalize apF q 1 (acc.map irow) [] = F0 at *
    simp [hia, srow, hm, hm', hw, N1, B1, ha]
    simpa using st
def cellsG : Option (List Int) → PV
 | some ns => .tuple [.slice (ns.map irow), .bool true]
 | none => .tuple [.slice [], .bool false]
theorem guest_ok (ws : List (List UInt8)) (hn : ws.length ≤ 1000000) (hsz : ∀ w ∈ ws, w.length ≤ 281474976710656) (hH : 0 < H.length) :
  gcall KC (geval KC) 69 [.pure (.slice (ws.map srow))] c H = some (.pure (cellsG (cellsV ws)), H) := by
 refine WPv_eq (call_enter KC needT Tryz.func69 rfl rfl good69 rfl rfl rfl (by simp) hH ?_)
 have h0 := fun Q h1 h2 => guest_loop (H := H) ws hn hsz Q hH ws.length 0 [] 19 (.inl rfl) (by omega) (by simpa using hn) h1 h2
 simp [apS_nil, apF_nil] at h0
 simp
 refine h0 _ (fun q ns hq h => ?_) (fun q rows hq h => ?_)
 ·rw [h]
  simp [cellsG, gleave_free]
  cases ns with
  | nil => simp [apS_nil, apF_nil]
  | cons n r =>
   have e := clean1_apS (H := H) (key := q) (es := 1) (rows := (n :: r).map irow) (l := H.length) (l0 := H.length - 1) (F := apF q 1 ((n :: r).map irow) []) rfl (by omega) (fun h => apF_self h)
   have e2 : ∀ G l0, clean2 G l0 (apS (H.length, q) 1 ((n :: r).map irow)) = clean1 G l0 (apS (H.length, q) 1 ((n :: r).map irow)) := fun G l0 => by unfold apS; split <;> rfl
   rw [e2, e]
   simp
 ·rw [h]
  simp [cellsG, gleave_free]
end
end Go.Gh
