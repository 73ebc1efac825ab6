/- Texts joined: the evaluator over ghost values, its soundness, the walks. Spaces struck and names made short by a program, for the size. -/
import Derived.Test.YthcpepcmnmlmeaaGc3f
import Derived.Test.YthcpepcmnmlmeaaProg
import Derived.KernelRfl
import Derived.IntWalk
namespace Go.Gh
open Go.Proofs
set_option linter.unusedVariables false
set_option linter.unusedSimpArgs false
set_option linter.unnecessarySimpa false
set_option maxRecDepth 100000
set_option maxHeartbeats 8000000
def annT : List (Nat × Nat × List Nat × List Nat) := [(14, 4, [0, 3, 4], [3]), (15, 4, [0, 2, 3, 8, 9, 10], [0, 2, 3, 8, 9]), (15, 12, [0, 2, 3, 8, 9, 11, 12, 13, 14, 15, 16], [0, 2, 3, 8, 9, 12, 14, 15]), (16, 5, [2, 3, 4, 5], [2, 3]), (17, 7, [1, 2, 7, 26, 27, 28], [1, 2, 7]), (17, 17, [1, 12, 13, 46, 47, 48], [4, 5, 13]), (17, 23, [1, 12, 13, 15, 16, 17, 46, 47, 48], [1, 4, 5, 12, 13, 46, 47, 48]), (17, 29, [1, 12, 13, 15, 16, 17, 18, 19, 46, 47, 48], [1, 12, 13, 15, 16, 17, 18, 46, 47, 48]), (18, 5, [0, 5, 6, 7], [6]), (21, 5, [0, 1, 5], [4]), (29, 3, [1, 17, 18], [1, 2]), (29, 11, [1, 30, 31, 32], [2]), (44, 4, [0, 1, 5, 6], [5]), (55, 4, [0, 5, 6], [5]), (57, 7, [1, 25, 26, 27], [1, 2]), (57, 12, [1, 4, 25, 26, 27, 39, 40, 41], [1, 2, 4, 25, 26, 27]), (57, 24, [7, 8, 67, 68, 69], [2, 7]), (59, 7, [2, 3, 4, 28, 29], [2, 3, 4]), (61, 4, [5, 10, 11], [5]), (62, 6, [3, 4, 5, 6], [3]), (65, 13, [9, 37, 38, 39], [9]), (65, 22, [12, 59, 60, 61], [12]), (66, 8, [3, 14, 15, 16], [2]), (67, 5, [11, 12, 13], [4]), (68, 5, [2, 3, 4, 5, 6, 7, 17, 18], [2, 3, 4, 5, 6]), (68, 10, [2, 3, 4, 5, 6, 7, 8, 9, 17, 18, 28, 29], [2, 3, 4, 5, 6, 7, 8, 9, 17, 18]), (69, 7, [0, 1, 7, 24, 25], [0, 1, 7]), (69, 13, [0, 1, 7, 9, 48, 49], [0, 1, 7, 9]), (69, 19, [0, 1, 7, 9, 59, 60], [0, 9]), (69, 23, [0, 1, 7, 11, 12, 59, 60, 65, 66, 67], [0, 1, 7, 12, 59, 60]), (69, 27, [0, 1, 7, 11, 12, 13, 14, 59, 60, 65, 66, 67, 75, 76], [0, 1, 7, 11, 12, 59, 60, 65, 66, 67]), (85, 4, [1, 5, 8, 9, 10], [5]), (87, 5, [3, 4, 10, 11, 12], [4]), (91, 3, [0, 6, 7, 8], [0, 2]), (94, 4, [1, 3, 4], [3]), (94, 10, [1, 3, 4, 5, 6], [1, 3, 4]), (96, 4, [1, 2, 5, 6], [5]), (98, 3, [1, 2, 3, 7], [6]), (99, 7, [2, 3, 4, 5], [2, 4]), (100, 4, [3, 7, 8, 9], [3]), (103, 4, [1, 5, 8, 9, 10], [5]), (113, 6, [0, 3, 4], [3]), (119, 3, [0, 1, 7, 8], [4]), (134, 4, [3, 9, 10, 11], [3]), (134, 8, [3, 5, 6, 7, 9, 10, 11, 20, 21], [3, 5, 6, 9, 10, 11]), (135, 3, [0, 1, 7, 8], [4]), (136, 3, [0, 1, 7, 8], [4])]
def upT : List (Nat × Nat × Up) := [(15, 42, .box 9), (15, 78, .box 9), (15, 103, .box 9), (15, 129, .box 9), (15, 164, .box 9), (15, 205, .box 9), (15, 236, .box 9), (15, 252, .box 9), (16, 42, .box 3), (17, 62, .scopes 1), (17, 118, .scopes 2), (18, 24, .scopes 1), (44, 20, .scopes 1), (55, 24, .scopes 1), (62, 29, .scopes 1), (65, 50, .scopes 1), (87, 32, .scopes 1), (94, 37, .scopes 2), (103, 21, .scopes 1), (108, 7, .scopes 0), (134, 28, .scopes 2), (134, 39, .scopes 1)]
def annOf (f r : Nat) : Option (List Nat × List Nat) := (annT.find? fun x => x.1 == f && x.2.1 == r).map fun x => x.2.2
def upOf (f d : Nat) : Up := ((upT.find? fun x => x.1 == f && x.2.1 == d).map fun x => x.2.2).getD (.scopes 0)
def needL : List (Nat × Nat × List (Nat × Nat)) := [(3, 4, [(3, 0)]), (3, 5, [(3, 0)]), (3, 13, [(14, 10)]), (15, 16, [(6, 1)]), (15, 23, [(7, 1)]), (15, 45, [(6, 1)]), (17, 24, [(6, 2)]), (55, 5, [(3, 1), (7, 3), (7, 5)]), (62, 9, [(12, 0), (12, 5)]), (99, 8, [(21, 4)])]
def needT (f r : Nat) : List (Nat × Nat) := ((needL.find? fun x => x.1 == f && x.2.1 == r).map fun x => x.2.2).getD []
def eqsOf : Nat → Option (List SK)
 | 41 => some [.int .i64, .int .i64, .int .i64, .int .i64, .int .i64, .int .i64, .int .i64, .int .i64]
 | 95 => some [.int .i64, .int .i64, .int .i64, .int .i64, .int .i64]
 | _ => none
def tabL : List Nat := [92]
def litL : List (Nat × Nat) := [(3, 9999)]
def typL : List Nat := []
def extOf : Nat → Option (List GV → Heap → Option (GV × Heap))
 | 92 => some (extTab 92)
 | 22 => some (extTold [([], .bool true)])
 | _ => none
@[simp] theorem eqsOf_41 : eqsOf 41 = some [.int .i64, .int .i64, .int .i64, .int .i64, .int .i64, .int .i64, .int .i64, .int .i64] := .trans rfl rfl
@[simp] theorem eqsOf_95 : eqsOf 95 = some [.int .i64, .int .i64, .int .i64, .int .i64, .int .i64] := .trans rfl rfl
def keepL : List Nat := [14, 108]
def frzL : List Nat := [73, 108]
def borL : List Nat := [20, 28, 80, 81, 113, 67, 75]
def clnL : List Nat := [108, 22, 92]
def ownL : List (Nat × Nat) := []
def carL : List (Nat × Nat) := []
def liftOf (f d : Nat) : Option Nat :=  none
def rowOf (_ _ : Nat) : Option Nat := none
noncomputable def KC0 (cl : List Nat) : Ctx := { P := Try.prog, keep := fun f => keepL.contains f, ann := annOf, up := upOf, own := fun f d => ownL.contains (f, d), frz := fun f => frzL.contains f, bor := fun f => borL.contains f, car := fun f r => carL.contains (f, r), cln := fun f => cl.contains f, lift := liftOf, row := rowOf, eqs := eqsOf, typ := fun t => typL.contains t, ext := extOf, lit := fun f d => litL.contains (f, d), tab := fun f => tabL.contains f }
noncomputable def KC : Ctx := KC0 clnL
section
@[simp] theorem KC_P : KC.P = Try.prog := .trans rfl rfl
@[simp] theorem KC_own {f d : Nat} : KC.own f d = ownL.contains (f, d) := .trans rfl rfl
@[simp] theorem KC_lift {f d : Nat} : KC.lift f d = liftOf f d := .trans rfl rfl
@[simp] theorem KC_row {f d : Nat} : KC.row f d = rowOf f d := .trans rfl rfl
attribute [simp] liftOf ownL rowOf
@[simp] theorem KC_lit {f d : Nat} : KC.lit f d = litL.contains (f, d) := .trans rfl rfl
attribute [simp] litL
@[simp] theorem KC_tab {f : Nat} : KC.tab f = tabL.contains f := .trans rfl rfl
attribute [simp] tabL
@[simp] theorem KC_typ {t : Nat} : KC.typ t = typL.contains t := .trans rfl rfl
attribute [simp] typL
@[simp] theorem ty_typ22 : typE KC 22 = false := by kernel_rfl
@[simp] theorem ty_typ25 : typE KC 25 = false := by kernel_rfl
@[simp] theorem ty_typ26 : typE KC 26 = false := by kernel_rfl
@[simp] theorem ty_typ170 : typE KC 170 = false := by kernel_rfl
@[simp] theorem KC_ann_14_4 : KC.ann 14 4 = some ([0, 3, 4], [3]) := by kernel_rfl
@[simp] theorem KC_car_14_4 : KC.car 14 4 = false := by kernel_rfl
@[simp] theorem KC_ann_15_4 : KC.ann 15 4 = some ([0, 2, 3, 8, 9, 10], [0, 2, 3, 8, 9]) := by kernel_rfl
@[simp] theorem KC_car_15_4 : KC.car 15 4 = false := by kernel_rfl
@[simp] theorem KC_ann_15_12 : KC.ann 15 12 = some ([0, 2, 3, 8, 9, 11, 12, 13, 14, 15, 16], [0, 2, 3, 8, 9, 12, 14, 15]) := by kernel_rfl
@[simp] theorem KC_car_15_12 : KC.car 15 12 = false := by kernel_rfl
@[simp] theorem KC_ann_16_5 : KC.ann 16 5 = some ([2, 3, 4, 5], [2, 3]) := by kernel_rfl
@[simp] theorem KC_car_16_5 : KC.car 16 5 = false := by kernel_rfl
@[simp] theorem KC_ann_17_7 : KC.ann 17 7 = some ([1, 2, 7, 26, 27, 28], [1, 2, 7]) := by kernel_rfl
@[simp] theorem KC_car_17_7 : KC.car 17 7 = false := by kernel_rfl
@[simp] theorem KC_ann_17_17 : KC.ann 17 17 = some ([1, 12, 13, 46, 47, 48], [4, 5, 13]) := by kernel_rfl
@[simp] theorem KC_car_17_17 : KC.car 17 17 = false := by kernel_rfl
@[simp] theorem KC_ann_17_23 : KC.ann 17 23 = some ([1, 12, 13, 15, 16, 17, 46, 47, 48], [1, 4, 5, 12, 13, 46, 47, 48]) := by kernel_rfl
@[simp] theorem KC_car_17_23 : KC.car 17 23 = false := by kernel_rfl
@[simp] theorem KC_ann_17_29 : KC.ann 17 29 = some ([1, 12, 13, 15, 16, 17, 18, 19, 46, 47, 48], [1, 12, 13, 15, 16, 17, 18, 46, 47, 48]) := by kernel_rfl
@[simp] theorem KC_car_17_29 : KC.car 17 29 = false := by kernel_rfl
@[simp] theorem KC_ann_18_5 : KC.ann 18 5 = some ([0, 5, 6, 7], [6]) := by kernel_rfl
@[simp] theorem KC_car_18_5 : KC.car 18 5 = false := by kernel_rfl
@[simp] theorem KC_ann_21_5 : KC.ann 21 5 = some ([0, 1, 5], [4]) := by kernel_rfl
@[simp] theorem KC_car_21_5 : KC.car 21 5 = false := by kernel_rfl
@[simp] theorem KC_ann_29_3 : KC.ann 29 3 = some ([1, 17, 18], [1, 2]) := by kernel_rfl
@[simp] theorem KC_car_29_3 : KC.car 29 3 = false := by kernel_rfl
@[simp] theorem KC_ann_29_11 : KC.ann 29 11 = some ([1, 30, 31, 32], [2]) := by kernel_rfl
@[simp] theorem KC_car_29_11 : KC.car 29 11 = false := by kernel_rfl
@[simp] theorem KC_ann_44_4 : KC.ann 44 4 = some ([0, 1, 5, 6], [5]) := by kernel_rfl
@[simp] theorem KC_car_44_4 : KC.car 44 4 = false := by kernel_rfl
@[simp] theorem KC_ann_55_4 : KC.ann 55 4 = some ([0, 5, 6], [5]) := by kernel_rfl
@[simp] theorem KC_car_55_4 : KC.car 55 4 = false := by kernel_rfl
@[simp] theorem KC_ann_57_7 : KC.ann 57 7 = some ([1, 25, 26, 27], [1, 2]) := by kernel_rfl
@[simp] theorem KC_car_57_7 : KC.car 57 7 = false := by kernel_rfl
@[simp] theorem KC_ann_57_12 : KC.ann 57 12 = some ([1, 4, 25, 26, 27, 39, 40, 41], [1, 2, 4, 25, 26, 27]) := by kernel_rfl
@[simp] theorem KC_car_57_12 : KC.car 57 12 = false := by kernel_rfl
@[simp] theorem KC_ann_57_24 : KC.ann 57 24 = some ([7, 8, 67, 68, 69], [2, 7]) := by kernel_rfl
@[simp] theorem KC_car_57_24 : KC.car 57 24 = false := by kernel_rfl
@[simp] theorem KC_ann_59_7 : KC.ann 59 7 = some ([2, 3, 4, 28, 29], [2, 3, 4]) := by kernel_rfl
@[simp] theorem KC_car_59_7 : KC.car 59 7 = false := by kernel_rfl
@[simp] theorem KC_ann_61_4 : KC.ann 61 4 = some ([5, 10, 11], [5]) := by kernel_rfl
@[simp] theorem KC_car_61_4 : KC.car 61 4 = false := by kernel_rfl
@[simp] theorem KC_ann_62_6 : KC.ann 62 6 = some ([3, 4, 5, 6], [3]) := by kernel_rfl
@[simp] theorem KC_car_62_6 : KC.car 62 6 = false := by kernel_rfl
@[simp] theorem KC_ann_66_8 : KC.ann 66 8 = some ([3, 14, 15, 16], [2]) := by kernel_rfl
@[simp] theorem KC_car_66_8 : KC.car 66 8 = false := by kernel_rfl
@[simp] theorem KC_ann_67_5 : KC.ann 67 5 = some ([11, 12, 13], [4]) := by kernel_rfl
@[simp] theorem KC_car_67_5 : KC.car 67 5 = false := by kernel_rfl
@[simp] theorem KC_ann_68_5 : KC.ann 68 5 = some ([2, 3, 4, 5, 6, 7, 17, 18], [2, 3, 4, 5, 6]) := by kernel_rfl
@[simp] theorem KC_car_68_5 : KC.car 68 5 = false := by kernel_rfl
@[simp] theorem KC_ann_68_10 : KC.ann 68 10 = some ([2, 3, 4, 5, 6, 7, 8, 9, 17, 18, 28, 29], [2, 3, 4, 5, 6, 7, 8, 9, 17, 18]) := by kernel_rfl
@[simp] theorem KC_car_68_10 : KC.car 68 10 = false := by kernel_rfl
@[simp] theorem KC_ann_69_7 : KC.ann 69 7 = some ([0, 1, 7, 24, 25], [0, 1, 7]) := by kernel_rfl
@[simp] theorem KC_car_69_7 : KC.car 69 7 = false := by kernel_rfl
@[simp] theorem KC_ann_69_13 : KC.ann 69 13 = some ([0, 1, 7, 9, 48, 49], [0, 1, 7, 9]) := by kernel_rfl
@[simp] theorem KC_car_69_13 : KC.car 69 13 = false := by kernel_rfl
@[simp] theorem KC_ann_69_19 : KC.ann 69 19 = some ([0, 1, 7, 9, 59, 60], [0, 9]) := by kernel_rfl
@[simp] theorem KC_car_69_19 : KC.car 69 19 = false := by kernel_rfl
@[simp] theorem KC_ann_69_23 : KC.ann 69 23 = some ([0, 1, 7, 11, 12, 59, 60, 65, 66, 67], [0, 1, 7, 12, 59, 60]) := by kernel_rfl
@[simp] theorem KC_car_69_23 : KC.car 69 23 = false := by kernel_rfl
@[simp] theorem KC_ann_69_27 : KC.ann 69 27 = some ([0, 1, 7, 11, 12, 13, 14, 59, 60, 65, 66, 67, 75, 76], [0, 1, 7, 11, 12, 59, 60, 65, 66, 67]) := by kernel_rfl
@[simp] theorem KC_car_69_27 : KC.car 69 27 = false := by kernel_rfl
@[simp] theorem KC_ann_85_4 : KC.ann 85 4 = some ([1, 5, 8, 9, 10], [5]) := by kernel_rfl
@[simp] theorem KC_car_85_4 : KC.car 85 4 = false := by kernel_rfl
@[simp] theorem KC_ann_87_5 : KC.ann 87 5 = some ([3, 4, 10, 11, 12], [4]) := by kernel_rfl
@[simp] theorem KC_car_87_5 : KC.car 87 5 = false := by kernel_rfl
@[simp] theorem KC_ann_91_3 : KC.ann 91 3 = some ([0, 6, 7, 8], [0, 2]) := by kernel_rfl
@[simp] theorem KC_car_91_3 : KC.car 91 3 = false := by kernel_rfl
@[simp] theorem KC_ann_94_4 : KC.ann 94 4 = some ([1, 3, 4], [3]) := by kernel_rfl
@[simp] theorem KC_car_94_4 : KC.car 94 4 = false := by kernel_rfl
@[simp] theorem KC_ann_94_10 : KC.ann 94 10 = some ([1, 3, 4, 5, 6], [1, 3, 4]) := by kernel_rfl
@[simp] theorem KC_car_94_10 : KC.car 94 10 = false := by kernel_rfl
@[simp] theorem KC_ann_96_4 : KC.ann 96 4 = some ([1, 2, 5, 6], [5]) := by kernel_rfl
@[simp] theorem KC_car_96_4 : KC.car 96 4 = false := by kernel_rfl
@[simp] theorem KC_ann_98_3 : KC.ann 98 3 = some ([1, 2, 3, 7], [6]) := by kernel_rfl
@[simp] theorem KC_car_98_3 : KC.car 98 3 = false := by kernel_rfl
@[simp] theorem KC_ann_99_7 : KC.ann 99 7 = some ([2, 3, 4, 5], [2, 4]) := by kernel_rfl
@[simp] theorem KC_car_99_7 : KC.car 99 7 = false := by kernel_rfl
@[simp] theorem KC_ann_100_4 : KC.ann 100 4 = some ([3, 7, 8, 9], [3]) := by kernel_rfl
@[simp] theorem KC_car_100_4 : KC.car 100 4 = false := by kernel_rfl
@[simp] theorem KC_ann_113_6 : KC.ann 113 6 = some ([0, 3, 4], [3]) := by kernel_rfl
@[simp] theorem KC_car_113_6 : KC.car 113 6 = false := by kernel_rfl
@[simp] theorem KC_ann_119_3 : KC.ann 119 3 = some ([0, 1, 7, 8], [4]) := by kernel_rfl
@[simp] theorem KC_car_119_3 : KC.car 119 3 = false := by kernel_rfl
@[simp] theorem KC_ann_134_4 : KC.ann 134 4 = some ([3, 9, 10, 11], [3]) := by kernel_rfl
@[simp] theorem KC_car_134_4 : KC.car 134 4 = false := by kernel_rfl
@[simp] theorem KC_ann_134_8 : KC.ann 134 8 = some ([3, 5, 6, 7, 9, 10, 11, 20, 21], [3, 5, 6, 9, 10, 11]) := by kernel_rfl
@[simp] theorem KC_car_134_8 : KC.car 134 8 = false := by kernel_rfl
@[simp] theorem KC_ann_135_3 : KC.ann 135 3 = some ([0, 1, 7, 8], [4]) := by kernel_rfl
@[simp] theorem KC_car_135_3 : KC.car 135 3 = false := by kernel_rfl
@[simp] theorem KC_up_15_42 : KC.up 15 42 = .box 9 := by kernel_rfl
@[simp] theorem KC_up_15_78 : KC.up 15 78 = .box 9 := by kernel_rfl
@[simp] theorem KC_up_15_103 : KC.up 15 103 = .box 9 := by kernel_rfl
@[simp] theorem KC_up_15_129 : KC.up 15 129 = .box 9 := by kernel_rfl
@[simp] theorem KC_up_15_164 : KC.up 15 164 = .box 9 := by kernel_rfl
@[simp] theorem KC_up_15_205 : KC.up 15 205 = .box 9 := by kernel_rfl
@[simp] theorem KC_up_15_236 : KC.up 15 236 = .box 9 := by kernel_rfl
@[simp] theorem KC_up_15_252 : KC.up 15 252 = .box 9 := by kernel_rfl
@[simp] theorem KC_up_16_42 : KC.up 16 42 = .box 3 := by kernel_rfl
@[simp] theorem KC_up_17_62 : KC.up 17 62 = .scopes 1 := by kernel_rfl
@[simp] theorem KC_up_17_118 : KC.up 17 118 = .scopes 2 := by kernel_rfl
@[simp] theorem KC_up_18_24 : KC.up 18 24 = .scopes 1 := by kernel_rfl
@[simp] theorem KC_up_44_20 : KC.up 44 20 = .scopes 1 := by kernel_rfl
@[simp] theorem KC_up_55_24 : KC.up 55 24 = .scopes 1 := by kernel_rfl
@[simp] theorem KC_up_62_29 : KC.up 62 29 = .scopes 1 := by kernel_rfl
@[simp] theorem KC_up_87_32 : KC.up 87 32 = .scopes 1 := by kernel_rfl
@[simp] theorem KC_up_94_37 : KC.up 94 37 = .scopes 2 := by kernel_rfl
@[simp] theorem KC_up_108_7 : KC.up 108 7 = .scopes 0 := by kernel_rfl
@[simp] theorem KC_up_134_28 : KC.up 134 28 = .scopes 2 := by kernel_rfl
@[simp] theorem KC_up_134_39 : KC.up 134 39 = .scopes 1 := by kernel_rfl
@[simp] theorem need_3_4 : needT 3 4 = [(3, 0)] := by kernel_rfl
@[simp] theorem need_3_5 : needT 3 5 = [(3, 0)] := by kernel_rfl
@[simp] theorem need_3_13 : needT 3 13 = [(14, 10)] := by kernel_rfl
@[simp] theorem need_14_5 : needT 14 5 = [] := by kernel_rfl
@[simp] theorem need_15_16 : needT 15 16 = [(6, 1)] := by kernel_rfl
@[simp] theorem need_15_23 : needT 15 23 = [(7, 1)] := by kernel_rfl
@[simp] theorem need_15_24 : needT 15 24 = [] := by kernel_rfl
@[simp] theorem need_15_29 : needT 15 29 = [] := by kernel_rfl
@[simp] theorem need_15_34 : needT 15 34 = [] := by kernel_rfl
@[simp] theorem need_15_39 : needT 15 39 = [] := by kernel_rfl
@[simp] theorem need_15_45 : needT 15 45 = [(6, 1)] := by kernel_rfl
@[simp] theorem need_16_6 : needT 16 6 = [] := by kernel_rfl
@[simp] theorem need_17_24 : needT 17 24 = [(6, 2)] := by kernel_rfl
@[simp] theorem need_17_32 : needT 17 32 = [] := by kernel_rfl
@[simp] theorem need_21_6 : needT 21 6 = [] := by kernel_rfl
@[simp] theorem need_44_7 : needT 44 7 = [] := by kernel_rfl
@[simp] theorem need_55_5 : needT 55 5 = [(3, 1), (7, 3), (7, 5)] := by kernel_rfl
@[simp] theorem need_57_21 : needT 57 21 = [] := by kernel_rfl
@[simp] theorem need_58_4 : needT 58 4 = [] := by kernel_rfl
@[simp] theorem need_59_3 : needT 59 3 = [] := by kernel_rfl
@[simp] theorem need_59_8 : needT 59 8 = [] := by kernel_rfl
@[simp] theorem need_62_8 : needT 62 8 = [] := by kernel_rfl
@[simp] theorem need_62_9 : needT 62 9 = [(12, 0), (12, 5)] := by kernel_rfl
@[simp] theorem need_62_10 : needT 62 10 = [] := by kernel_rfl
@[simp] theorem need_68_23 : needT 68 23 = [] := by kernel_rfl
@[simp] theorem need_69_8 : needT 69 8 = [] := by kernel_rfl
@[simp] theorem need_69_30 : needT 69 30 = [] := by kernel_rfl
@[simp] theorem need_97_1 : needT 97 1 = [] := by kernel_rfl
@[simp] theorem need_99_3 : needT 99 3 = [] := by kernel_rfl
@[simp] theorem need_99_8 : needT 99 8 = [(21, 4)] := by kernel_rfl
@[simp] theorem need_110_1 : needT 110 1 = [] := by kernel_rfl
@[simp] theorem need_128_4 : needT 128 4 = [] := by kernel_rfl
@[simp] theorem need_128_6 : needT 128 6 = [] := by kernel_rfl
@[simp] theorem need_129_8 : needT 129 8 = [] := by kernel_rfl
@[simp] theorem need_129_11 : needT 129 11 = [] := by kernel_rfl
@[simp] theorem need_130_6 : needT 130 6 = [] := by kernel_rfl
@[simp] theorem need_130_7 : needT 130 7 = [] := by kernel_rfl
@[simp] theorem need_131_4 : needT 131 4 = [] := by kernel_rfl
@[simp] theorem need_131_6 : needT 131 6 = [] := by kernel_rfl
@[simp] theorem need_150_1 : needT 150 1 = [] := by kernel_rfl
@[simp] theorem KC_eqs {t : Nat} : KC.eqs t = eqsOf t := .trans rfl rfl
end
@[simp] theorem ty_agg3 : tagg Try.prog 3 = some false := by kernel_rfl
@[simp] theorem ty_size3 : tsize Try.prog 3 = some 1 := by kernel_rfl
@[simp] theorem ty_agg4 : tagg Try.prog 4 = some false := by kernel_rfl
@[simp] theorem ty_size4 : tsize Try.prog 4 = some 1 := by kernel_rfl
@[simp] theorem ty_agg5 : tagg Try.prog 5 = some false := by kernel_rfl
@[simp] theorem ty_size5 : tsize Try.prog 5 = some 1 := by kernel_rfl
@[simp] theorem ty_agg9 : tagg Try.prog 9 = some false := by kernel_rfl
@[simp] theorem ty_size9 : tsize Try.prog 9 = some 1 := by kernel_rfl
@[simp] theorem ty_agg22 : tagg Try.prog 22 = some false := by kernel_rfl
@[simp] theorem ty_size22 : tsize Try.prog 22 = some 1 := by kernel_rfl
@[simp] theorem ty_elem22 : telemS Try.prog 22 = some (some 1) := by kernel_rfl
@[simp] theorem ty_arr22 : tarrS Try.prog 22 = none := by kernel_rfl
@[simp] theorem ty_app22 : tapp Try.prog 22 = some ((some 1), (some 8), (some 1)) := by kernel_rfl
@[simp] theorem ty_lit22 : tlit Try.prog 22 = some ((some 1), (some [(.pure (.int .i64 0))])) := by kernel_rfl
@[simp] theorem ty_mk22 : tmk Try.prog 22 = some ((some 1), (some 8), (some [(.int .i64 0)])) := by kernel_rfl
@[simp] theorem ty_spread22 : spreads Try.prog (some 22) = true := by kernel_rfl
@[simp] theorem ty_agg25 : tagg Try.prog 25 = some false := by kernel_rfl
@[simp] theorem ty_size25 : tsize Try.prog 25 = some 1 := by kernel_rfl
@[simp] theorem ty_elem25 : telemS Try.prog 25 = some (some 2) := by kernel_rfl
@[simp] theorem ty_arr25 : tarrS Try.prog 25 = none := by kernel_rfl
@[simp] theorem ty_app25 : tapp Try.prog 25 = some ((some 2), (some 24), (some 2)) := by kernel_rfl
@[simp] theorem ty_lit25 : tlit Try.prog 25 = some ((some 2), (some [(.pure (.str [])), (.pure (.int .i64 0))])) := by kernel_rfl
@[simp] theorem ty_spread25 : spreads Try.prog (some 25) = true := by kernel_rfl
@[simp] theorem ty_agg26 : tagg Try.prog 26 = some false := by kernel_rfl
@[simp] theorem ty_size26 : tsize Try.prog 26 = some 1 := by kernel_rfl
@[simp] theorem ty_elem26 : telemS Try.prog 26 = some (some 5) := by kernel_rfl
@[simp] theorem ty_arr26 : tarrS Try.prog 26 = none := by kernel_rfl
@[simp] theorem ty_app26 : tapp Try.prog 26 = some ((some 5), (some 40), (some 5)) := by kernel_rfl
@[simp] theorem ty_lit26 : tlit Try.prog 26 = some ((some 5), (some [(.pure (.int .i64 0)), (.pure (.int .i64 0)), (.pure (.int .i64 0)), (.pure (.int .i64 0)), (.pure (.int .i64 0))])) := by kernel_rfl
@[simp] theorem ty_spread26 : spreads Try.prog (some 26) = true := by kernel_rfl
@[simp] theorem ty_agg28 : tagg Try.prog 28 = some true := by kernel_rfl
@[simp] theorem ty_size28 : tsize Try.prog 28 = some 2 := by kernel_rfl
@[simp] theorem ty_zero28 : tzero Try.prog 28 = some (.agg [.nils, .nils]) := by kernel_rfl
@[simp] theorem ty_arr28 : tarrS Try.prog 28 = none := by kernel_rfl
@[simp] theorem ty_places28 : tplaces Try.prog 28 = some [(0, 1), (1, 1)] := by kernel_rfl
@[simp] theorem ty_agg31 : tagg Try.prog 31 = some true := by kernel_rfl
@[simp] theorem ty_size31 : tsize Try.prog 31 = some 6 := by kernel_rfl
@[simp] theorem ty_zero31 : tzero Try.prog 31 = some (.agg [(.pure (.int .i64 0)), (.pure (.int .i64 0)), (.pure (.int .i64 0)), (.pure (.int .i64 0)), (.pure (.int .i64 0)), .nils]) := by kernel_rfl
@[simp] theorem ty_arr31 : tarrS Try.prog 31 = none := by kernel_rfl
@[simp] theorem ty_places31 : tplaces Try.prog 31 = some [(0, 1), (1, 1), (2, 1), (3, 1), (4, 1), (5, 1)] := by kernel_rfl
@[simp] theorem ty_agg39 : tagg Try.prog 39 = some true := by kernel_rfl
@[simp] theorem ty_size39 : tsize Try.prog 39 = some 2 := by kernel_rfl
@[simp] theorem ty_zero39 : tzero Try.prog 39 = some (.pure (.agg [(.int .i64 0), (.int .i64 0)])) := by kernel_rfl
@[simp] theorem ty_arr39 : tarrS Try.prog 39 = none := by kernel_rfl
@[simp] theorem ty_places39 : tplaces Try.prog 39 = some [(0, 1), (1, 1)] := by kernel_rfl
@[simp] theorem ty_agg41 : tagg Try.prog 41 = some true := by kernel_rfl
@[simp] theorem ty_size41 : tsize Try.prog 41 = some 8 := by kernel_rfl
@[simp] theorem ty_zero41 : tzero Try.prog 41 = some (.pure (.agg [(.int .i64 0), (.int .i64 0), (.int .i64 0), (.int .i64 0), (.int .i64 0), (.int .i64 0), (.int .i64 0), (.int .i64 0)])) := by kernel_rfl
@[simp] theorem ty_arr41 : tarrS Try.prog 41 = none := by kernel_rfl
@[simp] theorem ty_places41 : tplaces Try.prog 41 = some [(0, 1), (1, 1), (2, 1), (3, 1), (4, 1), (5, 1), (6, 1), (7, 1)] := by kernel_rfl
@[simp] theorem ty_agg89 : tagg Try.prog 89 = some false := by kernel_rfl
@[simp] theorem ty_size89 : tsize Try.prog 89 = some 1 := by kernel_rfl
@[simp] theorem ty_zero91 : tzero Try.prog 91 = some (.pure (.agg [(.int .u64 0)])) := by kernel_rfl
@[simp] theorem ty_arr91 : tarrS Try.prog 91 = none := by kernel_rfl
@[simp] theorem ty_places91 : tplaces Try.prog 91 = some [(0, 1)] := by kernel_rfl
@[simp] theorem ty_agg95 : tagg Try.prog 95 = some true := by kernel_rfl
@[simp] theorem ty_size95 : tsize Try.prog 95 = some 5 := by kernel_rfl
@[simp] theorem ty_zero95 : tzero Try.prog 95 = some (.pure (.agg [(.int .i64 0), (.int .i64 0), (.int .i64 0), (.int .i64 0), (.int .i64 0)])) := by kernel_rfl
@[simp] theorem ty_arr95 : tarrS Try.prog 95 = none := by kernel_rfl
@[simp] theorem ty_places95 : tplaces Try.prog 95 = some [(0, 1), (1, 1), (2, 1), (3, 1), (4, 1)] := by kernel_rfl
@[simp] theorem ty_zero96 : tzero Try.prog 96 = some (.pure (.agg [(.int .i64 0), (.int .i64 0), (.int .i64 0), (.int .i64 0)])) := by kernel_rfl
@[simp] theorem ty_arr96 : tarrS Try.prog 96 = some (4, (some 1), (some false)) := by kernel_rfl
@[simp] theorem ty_agg101 : tagg Try.prog 101 = some true := by kernel_rfl
@[simp] theorem ty_size101 : tsize Try.prog 101 = some 6 := by kernel_rfl
@[simp] theorem ty_zero101 : tzero Try.prog 101 = some (.pure (.agg [(.int .i64 0), (.int .i64 0), (.int .i64 0), (.int .i64 0), (.int .i64 0), (.int .i64 0)])) := by kernel_rfl
@[simp] theorem ty_arr101 : tarrS Try.prog 101 = some (6, (some 1), (some false)) := by kernel_rfl
@[simp] theorem ty_agg103 : tagg Try.prog 103 = some true := by kernel_rfl
@[simp] theorem ty_size103 : tsize Try.prog 103 = some 24 := by kernel_rfl
@[simp] theorem ty_zero103 : tzero Try.prog 103 = some (.pure (.agg [(.int .i64 0), (.int .i64 0), (.int .i64 0), (.int .i64 0), (.int .i64 0), (.int .i64 0), (.int .i64 0), (.int .i64 0), (.int .i64 0), (.int .i64 0), (.int .i64 0), (.int .i64 0), (.int .i64 0), (.int .i64 0), (.int .i64 0), (.int .i64 0), (.int .i64 0), (.int .i64 0), (.int .i64 0), (.int .i64 0), (.int .i64 0), (.int .i64 0), (.int .i64 0), (.int .i64 0)])) := by kernel_rfl
@[simp] theorem ty_arr103 : tarrS Try.prog 103 = some (4, (some 6), (some true)) := by kernel_rfl
@[simp] theorem ty_agg114 : tagg Try.prog 114 = some true := by kernel_rfl
@[simp] theorem ty_size114 : tsize Try.prog 114 = some 2 := by kernel_rfl
@[simp] theorem ty_zero114 : tzero Try.prog 114 = some (.agg [.nils, .nils]) := by kernel_rfl
@[simp] theorem ty_arr114 : tarrS Try.prog 114 = none := by kernel_rfl
@[simp] theorem ty_places114 : tplaces Try.prog 114 = some [(0, 1), (1, 1)] := by kernel_rfl
@[simp] theorem ty_zero121 : tzero Try.prog 121 = some (.pure (.agg [(.int .i64 0), (.int .i64 0), (.int .i64 0), (.int .i64 0), (.int .i64 0)])) := by kernel_rfl
@[simp] theorem ty_arr121 : tarrS Try.prog 121 = some (5, (some 1), (some false)) := by kernel_rfl
@[simp] theorem ty_elem132 : telemS Try.prog 132 = some (some 1) := by kernel_rfl
@[simp] theorem ty_arr132 : tarrS Try.prog 132 = none := by kernel_rfl
@[simp] theorem ty_lit132 : tlit Try.prog 132 = some ((some 1), (some [(.pure (.str []))])) := by kernel_rfl
@[simp] theorem ty_agg135 : tagg Try.prog 135 = some true := by kernel_rfl
@[simp] theorem ty_size135 : tsize Try.prog 135 = some 2 := by kernel_rfl
@[simp] theorem ty_zero135 : tzero Try.prog 135 = some (.pure (.agg [(.str []), (.int .i64 0)])) := by kernel_rfl
@[simp] theorem ty_arr135 : tarrS Try.prog 135 = none := by kernel_rfl
@[simp] theorem ty_places135 : tplaces Try.prog 135 = some [(0, 1), (1, 1)] := by kernel_rfl
@[simp] theorem ty_arr138 : tarrS Try.prog 138 = some (6, (some 1), (some false)) := by kernel_rfl
@[simp] theorem ty_zero140 : tzero Try.prog 140 = some (.pure (.agg [(.int .i64 0), (.int .i64 0), (.int .i64 0), (.bool false), (.bool false), (.bool false), (.bool false), (.bool false), (.bool false), (.int .i64 0), (.int .i64 0), (.int .i64 0), (.int .i64 0)])) := by kernel_rfl
@[simp] theorem ty_arr140 : tarrS Try.prog 140 = none := by kernel_rfl
@[simp] theorem ty_places140 : tplaces Try.prog 140 = some [(0, 1), (1, 1), (2, 1), (3, 6), (9, 4)] := by kernel_rfl
@[simp] theorem ty_mz141 : tmz Try.prog 141 = some (3, (some (.pure .nilf))) := by kernel_rfl
@[simp] theorem ty_agg146 : tagg Try.prog 146 = some true := by kernel_rfl
@[simp] theorem ty_size146 : tsize Try.prog 146 = some 24 := by kernel_rfl
@[simp] theorem ty_zero146 : tzero Try.prog 146 = some (.pure (.agg [(.int .i64 0), (.int .i64 0), (.int .i64 0), (.int .i64 0), (.int .i64 0), (.int .i64 0), (.int .i64 0), (.int .i64 0), (.int .i64 0), (.int .i64 0), (.int .i64 0), (.int .i64 0), (.int .i64 0), (.int .i64 0), (.int .i64 0), (.int .i64 0), (.int .i64 0), (.int .i64 0), (.int .i64 0), (.int .i64 0), (.int .i64 0), (.int .i64 0), (.int .i64 0), (.int .i64 0)])) := by kernel_rfl
@[simp] theorem ty_arr146 : tarrS Try.prog 146 = some (4, (some 6), (some true)) := by kernel_rfl
@[simp] theorem ty_arr156 : tarrS Try.prog 156 = some (9, (some 1), (some false)) := by kernel_rfl
@[simp] theorem ty_zero157 : tzero Try.prog 157 = some (.pure (.agg [(.int .i64 0), (.int .i64 0), (.int .i64 0), (.int .i64 0), (.int .i64 0), (.int .i64 0), (.int .i64 0), (.int .i64 0), (.int .i64 0), (.int .i64 0), (.int .i64 0), (.int .i64 0), (.int .i64 0), (.int .i64 0), (.int .i64 0), (.int .i64 0), (.int .i64 0), (.int .i64 0), (.int .i64 0), (.int .i64 0), (.int .i64 0), (.int .i64 0), (.int .i64 0), (.int .i64 0), (.int .i64 0), (.int .i64 0), (.int .i64 0), (.int .i64 0), (.int .i64 0), (.int .i64 0), (.int .i64 0), (.int .i64 0), (.int .i64 0), (.int .i64 0), (.int .i64 0), (.int .i64 0), (.int .i64 0), (.int .i64 0), (.int .i64 0), (.int .i64 0), (.int .i64 0), (.int .i64 0), (.int .i64 0), (.int .i64 0), (.int .i64 0), (.int .i64 0), (.int .i64 0), (.int .i64 0), (.int .i64 0), (.int .i64 0), (.int .i64 0), (.int .i64 0), (.int .i64 0), (.int .i64 0), (.int .i64 0), (.int .i64 0), (.int .i64 0), (.int .i64 0), (.int .i64 0), (.int .i64 0), (.int .i64 0), (.int .i64 0), (.int .i64 0), (.int .i64 0), (.int .i64 0), (.int .i64 0), (.int .i64 0), (.int .i64 0), (.int .i64 0), (.int .i64 0), (.int .i64 0), (.int .i64 0), (.int .i64 0), (.int .i64 0), (.int .i64 0), (.int .i64 0), (.int .i64 0), (.int .i64 0), (.int .i64 0), (.int .i64 0), (.int .i64 0)])) := by kernel_rfl
@[simp] theorem ty_arr157 : tarrS Try.prog 157 = some (9, (some 9), (some true)) := by kernel_rfl
@[simp] theorem ty_mz167 : tmz Try.prog 167 = some (3, (some (.pure (.int .i64 0)))) := by kernel_rfl
@[simp] theorem ty_map167 : tmap Try.prog 167 = some (3, 3) := by kernel_rfl
@[simp] theorem ty_elem168 : telemS Try.prog 168 = some (some 1) := by kernel_rfl
@[simp] theorem ty_arr168 : tarrS Try.prog 168 = none := by kernel_rfl
@[simp] theorem ty_elem170 : telemS Try.prog 170 = some (some 7) := by kernel_rfl
@[simp] theorem ty_arr170 : tarrS Try.prog 170 = none := by kernel_rfl
@[simp] theorem ty_app170 : tapp Try.prog 170 = some ((some 7), (some 48), (some 7)) := by kernel_rfl
@[simp] theorem ty_lit170 : tlit Try.prog 170 = some ((some 7), (some [(.pure (.int .i64 0)), (.pure (.int .i64 0)), (.pure (.int .i64 0)), (.pure (.int .i64 0)), (.pure (.int .i64 0)), (.pure (.bool false)), (.pure (.bool false))])) := by kernel_rfl
@[simp] theorem ty_spread170 : spreads Try.prog (some 170) = true := by kernel_rfl
@[simp] theorem ty_agg173 : tagg Try.prog 173 = some true := by kernel_rfl
@[simp] theorem ty_size173 : tsize Try.prog 173 = some 7 := by kernel_rfl
@[simp] theorem ty_zero173 : tzero Try.prog 173 = some (.pure (.agg [(.int .i64 0), (.int .i64 0), (.int .i64 0), (.int .i64 0), (.int .i64 0), (.bool false), (.bool false)])) := by kernel_rfl
@[simp] theorem ty_arr173 : tarrS Try.prog 173 = none := by kernel_rfl
@[simp] theorem ty_places173 : tplaces Try.prog 173 = some [(0, 5), (5, 1), (6, 1)] := by kernel_rfl
@[simp] theorem ty_fs28_0 : tfs Try.prog 28 0 = some (0, (some 1)) := by kernel_rfl
@[simp] theorem ty_fs28_1 : tfs Try.prog 28 1 = some (1, (some 1)) := by kernel_rfl
@[simp] theorem ty_fs31_0 : tfs Try.prog 31 0 = some (0, (some 1)) := by kernel_rfl
@[simp] theorem ty_fs31_1 : tfs Try.prog 31 1 = some (1, (some 1)) := by kernel_rfl
@[simp] theorem ty_fs31_2 : tfs Try.prog 31 2 = some (2, (some 1)) := by kernel_rfl
@[simp] theorem ty_fs31_3 : tfs Try.prog 31 3 = some (3, (some 1)) := by kernel_rfl
@[simp] theorem ty_fs31_4 : tfs Try.prog 31 4 = some (4, (some 1)) := by kernel_rfl
@[simp] theorem ty_fs31_5 : tfs Try.prog 31 5 = some (5, (some 1)) := by kernel_rfl
@[simp] theorem ty_fs39_0 : tfs Try.prog 39 0 = some (0, (some 1)) := by kernel_rfl
@[simp] theorem ty_fs39_1 : tfs Try.prog 39 1 = some (1, (some 1)) := by kernel_rfl
@[simp] theorem ty_fs41_0 : tfs Try.prog 41 0 = some (0, (some 1)) := by kernel_rfl
@[simp] theorem ty_fs41_1 : tfs Try.prog 41 1 = some (1, (some 1)) := by kernel_rfl
@[simp] theorem ty_fs41_2 : tfs Try.prog 41 2 = some (2, (some 1)) := by kernel_rfl
@[simp] theorem ty_fs41_3 : tfs Try.prog 41 3 = some (3, (some 1)) := by kernel_rfl
@[simp] theorem ty_fs41_4 : tfs Try.prog 41 4 = some (4, (some 1)) := by kernel_rfl
@[simp] theorem ty_fs41_5 : tfs Try.prog 41 5 = some (5, (some 1)) := by kernel_rfl
@[simp] theorem ty_fs41_6 : tfs Try.prog 41 6 = some (6, (some 1)) := by kernel_rfl
@[simp] theorem ty_fs41_7 : tfs Try.prog 41 7 = some (7, (some 1)) := by kernel_rfl
@[simp] theorem ty_fs91_0 : tfs Try.prog 91 0 = some (0, (some 1)) := by kernel_rfl
@[simp] theorem ty_fs95_0 : tfs Try.prog 95 0 = some (0, (some 1)) := by kernel_rfl
@[simp] theorem ty_fs95_1 : tfs Try.prog 95 1 = some (1, (some 1)) := by kernel_rfl
@[simp] theorem ty_fs95_2 : tfs Try.prog 95 2 = some (2, (some 1)) := by kernel_rfl
@[simp] theorem ty_fs95_3 : tfs Try.prog 95 3 = some (3, (some 1)) := by kernel_rfl
@[simp] theorem ty_fs95_4 : tfs Try.prog 95 4 = some (4, (some 1)) := by kernel_rfl
@[simp] theorem ty_fs114_0 : tfs Try.prog 114 0 = some (0, (some 1)) := by kernel_rfl
@[simp] theorem ty_fs114_1 : tfs Try.prog 114 1 = some (1, (some 1)) := by kernel_rfl
@[simp] theorem ty_fs135_0 : tfs Try.prog 135 0 = some (0, (some 1)) := by kernel_rfl
@[simp] theorem ty_fs135_1 : tfs Try.prog 135 1 = some (1, (some 1)) := by kernel_rfl
@[simp] theorem ty_fs140_0 : tfs Try.prog 140 0 = some (0, (some 1)) := by kernel_rfl
@[simp] theorem ty_fs140_1 : tfs Try.prog 140 1 = some (1, (some 1)) := by kernel_rfl
@[simp] theorem ty_fs140_2 : tfs Try.prog 140 2 = some (2, (some 1)) := by kernel_rfl
@[simp] theorem ty_fs140_3 : tfs Try.prog 140 3 = some (3, (some 6)) := by kernel_rfl
@[simp] theorem ty_fs140_4 : tfs Try.prog 140 4 = some (9, (some 4)) := by kernel_rfl
@[simp] theorem ty_fs173_2 : tfs Try.prog 173 2 = some (6, (some 1)) := by kernel_rfl
attribute [simp] Try.results3 Try.ntmps3
attribute [simp] Try.results14 Try.ntmps14
attribute [simp] Try.results15 Try.ntmps15
attribute [simp] Try.results16 Try.ntmps16
attribute [simp] Try.results17 Try.ntmps17
attribute [simp] Try.results18 Try.ntmps18
attribute [simp] Try.results19 Try.ntmps19
attribute [simp] Try.results20 Try.ntmps20
attribute [simp] Try.results21 Try.ntmps21
attribute [simp] Try.results25 Try.ntmps25
attribute [simp] Try.results29 Try.ntmps29
attribute [simp] Try.results32 Try.ntmps32
attribute [simp] Try.results44 Try.ntmps44
attribute [simp] Try.results45 Try.ntmps45
attribute [simp] Try.results49 Try.ntmps49
attribute [simp] Try.results54 Try.ntmps54
attribute [simp] Try.results55 Try.ntmps55
attribute [simp] Try.results56 Try.ntmps56
attribute [simp] Try.results57 Try.ntmps57
attribute [simp] Try.results58 Try.ntmps58
attribute [simp] Try.results59 Try.ntmps59
attribute [simp] Try.results60 Try.ntmps60
attribute [simp] Try.results61 Try.ntmps61
attribute [simp] Try.results62 Try.ntmps62
attribute [simp] Try.results63 Try.ntmps63
attribute [simp] Try.results64 Try.ntmps64
attribute [simp] Try.results65 Try.ntmps65
attribute [simp] Try.results66 Try.ntmps66
attribute [simp] Try.results67 Try.ntmps67
attribute [simp] Try.results68 Try.ntmps68
attribute [simp] Try.results69 Try.ntmps69
attribute [simp] Try.results77 Try.ntmps77
attribute [simp] Try.results78 Try.ntmps78
attribute [simp] Try.results85 Try.ntmps85
attribute [simp] Try.results87 Try.ntmps87
attribute [simp] Try.results90 Try.ntmps90
attribute [simp] Try.results91 Try.ntmps91
attribute [simp] Try.results93 Try.ntmps93
attribute [simp] Try.results94 Try.ntmps94
attribute [simp] Try.results95 Try.ntmps95
attribute [simp] Try.results96 Try.ntmps96
attribute [simp] Try.results97 Try.ntmps97
attribute [simp] Try.results98 Try.ntmps98
attribute [simp] Try.results99 Try.ntmps99
attribute [simp] Try.results100 Try.ntmps100
attribute [simp] Try.results101 Try.ntmps101
attribute [simp] Try.results102 Try.ntmps102
attribute [simp] Try.results103 Try.ntmps103
attribute [simp] Try.results104 Try.ntmps104
attribute [simp] Try.results105 Try.ntmps105
attribute [simp] Try.results106 Try.ntmps106
attribute [simp] Try.results107 Try.ntmps107
attribute [simp] Try.results108 Try.ntmps108
attribute [simp] Try.results109 Try.ntmps109
attribute [simp] Try.results110 Try.ntmps110
attribute [simp] Try.results111 Try.ntmps111
attribute [simp] Try.results112 Try.ntmps112
attribute [simp] Try.results113 Try.ntmps113
attribute [simp] Try.results119 Try.ntmps119
attribute [simp] Try.results128 Try.ntmps128
attribute [simp] Try.results129 Try.ntmps129
attribute [simp] Try.results130 Try.ntmps130
attribute [simp] Try.results131 Try.ntmps131
attribute [simp] Try.results132 Try.ntmps132
attribute [simp] Try.results133 Try.ntmps133
attribute [simp] Try.results134 Try.ntmps134
attribute [simp] Try.results135 Try.ntmps135
attribute [simp] Try.results136 Try.ntmps136
attribute [simp] Try.results150 Try.ntmps150
attribute [simp] Try.results151 Try.ntmps151
section
def loopsOf : Code → List Code
 | .seq a b => loopsOf a ++ loopsOf b
 | .cond _ a b => loopsOf a ++ loopsOf b
 | .block _ a => loopsOf a
 | .scope a => loopsOf a
 | .loop a => a :: loopsOf a
 | .rangeFunc _ _ a b => loopsOf a ++ loopsOf b
 | _ => []
def lp (g : Func) (k : Nat) : Code := ((loopsOf (g.body.getD .skip))[k]?).getD .skip
noncomputable def hid {α : Type} (a : α) : α := Classical.choose (⟨a, rfl⟩ : ∃ x, x = a)
theorem hid_eq {α : Type} (a : α) : hid a = a := Classical.choose_spec (⟨a, rfl⟩ : ∃ x, x = a)
@[simp] theorem firstRegion_scope {a : Code} : firstRegion (.scope a) = firstRegion a := .trans rfl rfl
@[simp] theorem firstRegion_label {l : Nat} : firstRegion (.label l) = 0 := .trans rfl rfl
section
variable {K : Ctx} {fn : FuncId} {H : Heap}
def saV (v : GV) (x : Option (GV × Heap)) : Bool := match x with | some (v', _) => GV.beq v' v | none => false
@[simp] theorem saV_some {v v' : GV} : saV v (some (v', H)) = GV.beq v' v := rfl
@[simp] theorem sameAt_def {o : Oper} {s : Slots} {v : GV} : sameAt K fn o s v H = saV v (gop K fn o s H) := by
 unfold sameAt saV; rfl
@[simp] theorem natCast_lt_zero (n : Nat) : ((n : Int) < 0) = False := by simp
theorem w64 {x : Int} (h1 : -9223372036854775808 ≤ x) (h2 : x ≤ 9223372036854775807) : IntKind.i64.wrap x = x := IntWalk.i64_in x ⟨h1, h2⟩
def wbox (w : Int) : Blk := .box [.pure (.int .u64 w)]
def isBox (H : Heap) (nm : Nm) : Prop := ∃ w, H.get nm = some (wbox w) ∧ H.set nm (wbox w) = H
def wordAt (H : Heap) (nm : Nm) : Int := match H.get nm with | some (.box [.pure (.int _ w)]) => w | _ => 0
theorem isBox_get {nm : Nm} (h : isBox H nm) : H.get nm = some (wbox (wordAt H nm)) := by
 obtain ⟨w, h1, h2⟩ := h
 simp only [wordAt, h1, wbox]
theorem isBox_set {nm : Nm} (h : isBox H nm) : H.set nm (wbox (wordAt H nm)) = H := by
 obtain ⟨w, h1, h2⟩ := h
 simp only [wordAt, h1, wbox]
 exact h2
theorem isBox_lt {nm : Nm} (h : isBox H nm) : nm.1 < H.length := by
 obtain ⟨w, h1, h2⟩ := h
 exact Heap.get_lt h1
theorem Fr.ins_ins {q : Nat} {x y : Blk} : ∀ f : Fr, (f.ins q x).ins q y = f.ins q y
  | [] => by simp [Fr.ins]
  | (k, b) :: r => by
    simp only [Fr.ins]
    split
    · simp [Fr.ins]
    · rename_i h
      split
      · simp [Fr.ins]
      · rename_i h2
        simp only [Fr.ins, h, h2, if_false, Fr.ins_ins r]
@[simp] theorem Heap.set_set {nm : Nm} {x y : Blk} : ∀ {H : Heap}, (H.set nm x).set nm y = H.set nm y
 | [] => rfl
 | f :: H => by
  simp only [Heap.set]
  split
  ·rename_i h; simp only [Heap.set, h, if_true, Fr.ins_ins]
  ·rename_i h; simp only [Heap.set, Heap.length_set, h, if_false, Heap.set_set]
attribute [simp] Heap.length_set
@[simp] theorem Heap.get_set' {nm : Nm} {b : Blk} (h : nm.1 < H.length) : (H.set nm b).get nm = some b := Heap.get_set b h
@[simp] theorem wordAt_set {nm : Nm} {w : Int} (h : nm.1 < H.length) : wordAt (H.set nm (wbox w)) nm = w := by
 simp only [wordAt, Heap.get_set' h, wbox]
@[simp] theorem isBox_set' {nm : Nm} {w : Int} (h : nm.1 < H.length) : isBox (H.set nm (wbox w)) nm := ⟨w, Heap.get_set' h, Heap.set_set⟩
theorem isBox_up {nm : Nm} {fr : Fr} (h : isBox H nm) : isBox (fr :: H) nm := by
 have hl := isBox_lt h
 obtain ⟨w, h1, h2⟩ := h
 have : ¬ nm.1 = H.length := by omega
 exact ⟨w, by simp [this, h1], by simp [this, h2]⟩
theorem wordAt_up {nm : Nm} {fr : Fr} (h : nm.1 < H.length) : wordAt (fr :: H) nm = wordAt H nm := by
 have : ¬ nm.1 = H.length := by omega
 simp [wordAt, this]
theorem Heap.set_up {nm : Nm} {fr : Fr} {b : Blk} (h : nm.1 < H.length) : Heap.set (fr :: H) nm b = fr :: H.set nm b := by
 have : ¬ nm.1 = H.length := by omega
 simp [this]
end
end
theorem good3 : good KC needT 3 (Try.f3.body.getD .skip) = true := by kernel_rfl
theorem good14 : good KC needT 14 (Try.f14.body.getD .skip) = true := by kernel_rfl
theorem good15 : good KC needT 15 (Try.f15.body.getD .skip) = true := by kernel_rfl
theorem good16 : good KC needT 16 (Try.f16.body.getD .skip) = true := by kernel_rfl
theorem good17 : good KC needT 17 (Try.f17.body.getD .skip) = true := by kernel_rfl
theorem good18 : good KC needT 18 (Try.f18.body.getD .skip) = true := by kernel_rfl
theorem good19 : good KC needT 19 (Try.f19.body.getD .skip) = true := by kernel_rfl
theorem good20 : good KC needT 20 (Try.f20.body.getD .skip) = true := by kernel_rfl
theorem good21 : good KC needT 21 (Try.f21.body.getD .skip) = true := by kernel_rfl
theorem good25 : good KC needT 25 (Try.f25.body.getD .skip) = true := by kernel_rfl
theorem good29 : good KC needT 29 (Try.f29.body.getD .skip) = true := by kernel_rfl
theorem good32 : good KC needT 32 (Try.f32.body.getD .skip) = true := by kernel_rfl
theorem good44 : good KC needT 44 (Try.f44.body.getD .skip) = true := by kernel_rfl
theorem good45 : good KC needT 45 (Try.f45.body.getD .skip) = true := by kernel_rfl
theorem good49 : good KC needT 49 (Try.f49.body.getD .skip) = true := by kernel_rfl
theorem good54 : good KC needT 54 (Try.f54.body.getD .skip) = true := by kernel_rfl
theorem good55 : good KC needT 55 (Try.f55.body.getD .skip) = true := by kernel_rfl
theorem good56 : good KC needT 56 (Try.f56.body.getD .skip) = true := by kernel_rfl
theorem good57 : good KC needT 57 (Try.f57.body.getD .skip) = true := by kernel_rfl
theorem good58 : good KC needT 58 (Try.f58.body.getD .skip) = true := by kernel_rfl
theorem good59 : good KC needT 59 (Try.f59.body.getD .skip) = true := by kernel_rfl
theorem good60 : good KC needT 60 (Try.f60.body.getD .skip) = true := by kernel_rfl
theorem good61 : good KC needT 61 (Try.f61.body.getD .skip) = true := by kernel_rfl
theorem good62 : good KC needT 62 (Try.f62.body.getD .skip) = true := by kernel_rfl
theorem good63 : good KC needT 63 (Try.f63.body.getD .skip) = true := by kernel_rfl
theorem good64 : good KC needT 64 (Try.f64.body.getD .skip) = true := by kernel_rfl
theorem good65 : good KC needT 65 (Try.f65.body.getD .skip) = true := by kernel_rfl
theorem good66 : good KC needT 66 (Try.f66.body.getD .skip) = true := by kernel_rfl
theorem good67 : good KC needT 67 (Try.f67.body.getD .skip) = true := by kernel_rfl
theorem good68 : good KC needT 68 (Try.f68.body.getD .skip) = true := by kernel_rfl
theorem good69 : good KC needT 69 (Try.f69.body.getD .skip) = true := by kernel_rfl
theorem good77 : good KC needT 77 (Try.f77.body.getD .skip) = true := by kernel_rfl
theorem good78 : good KC needT 78 (Try.f78.body.getD .skip) = true := by kernel_rfl
theorem good85 : good KC needT 85 (Try.f85.body.getD .skip) = true := by kernel_rfl
theorem good87 : good KC needT 87 (Try.f87.body.getD .skip) = true := by kernel_rfl
theorem good90 : good KC needT 90 (Try.f90.body.getD .skip) = true := by kernel_rfl
theorem good91 : good KC needT 91 (Try.f91.body.getD .skip) = true := by kernel_rfl
theorem good93 : good KC needT 93 (Try.f93.body.getD .skip) = true := by kernel_rfl
theorem good94 : good KC needT 94 (Try.f94.body.getD .skip) = true := by kernel_rfl
theorem good95 : good KC needT 95 (Try.f95.body.getD .skip) = true := by kernel_rfl
theorem good96 : good KC needT 96 (Try.f96.body.getD .skip) = true := by kernel_rfl
theorem good97 : good KC needT 97 (Try.f97.body.getD .skip) = true := by kernel_rfl
theorem good98 : good KC needT 98 (Try.f98.body.getD .skip) = true := by kernel_rfl
theorem good99 : good KC needT 99 (Try.f99.body.getD .skip) = true := by kernel_rfl
theorem good100 : good KC needT 100 (Try.f100.body.getD .skip) = true := by kernel_rfl
theorem good101 : good KC needT 101 (Try.f101.body.getD .skip) = true := by kernel_rfl
theorem good102 : good KC needT 102 (Try.f102.body.getD .skip) = true := by kernel_rfl
theorem good108 : good KC needT 108 (Try.f108.body.getD .skip) = true := by kernel_rfl
theorem good109 : good KC needT 109 (Try.f109.body.getD .skip) = true := by kernel_rfl
theorem good110 : good KC needT 110 (Try.f110.body.getD .skip) = true := by kernel_rfl
theorem good111 : good KC needT 111 (Try.f111.body.getD .skip) = true := by kernel_rfl
theorem good112 : good KC needT 112 (Try.f112.body.getD .skip) = true := by kernel_rfl
theorem good113 : good KC needT 113 (Try.f113.body.getD .skip) = true := by kernel_rfl
theorem good119 : good KC needT 119 (Try.f119.body.getD .skip) = true := by kernel_rfl
theorem good128 : good KC needT 128 (Try.f128.body.getD .skip) = true := by kernel_rfl
theorem good129 : good KC needT 129 (Try.f129.body.getD .skip) = true := by kernel_rfl
theorem good130 : good KC needT 130 (Try.f130.body.getD .skip) = true := by kernel_rfl
theorem good131 : good KC needT 131 (Try.f131.body.getD .skip) = true := by kernel_rfl
theorem good132 : good KC needT 132 (Try.f132.body.getD .skip) = true := by kernel_rfl
theorem good133 : good KC needT 133 (Try.f133.body.getD .skip) = true := by kernel_rfl
theorem good134 : good KC needT 134 (Try.f134.body.getD .skip) = true := by kernel_rfl
theorem good135 : good KC needT 135 (Try.f135.body.getD .skip) = true := by kernel_rfl
theorem good150 : good KC needT 150 (Try.f150.body.getD .skip) = true := by kernel_rfl
theorem good151 : good KC needT 151 (Try.f151.body.getD .skip) = true := by kernel_rfl
section
@[simp] theorem ne_add2 (n : Nat) : (n = n + 1 + 1) = False := by simp; omega
@[simp] theorem ne_add3 (n : Nat) : (n = n + 1 + 1 + 1) = False := by simp; omega
@[simp] theorem ne_add4 (n : Nat) : (n = n + 1 + 1 + 1 + 1) = False := by simp; omega
@[simp] theorem ne_add2' (n : Nat) : (n + 1 + 1 = n) = False := by simp; omega
@[simp] theorem ne_add3' (n : Nat) : (n + 1 + 1 + 1 = n) = False := by simp; omega
@[simp] theorem nle_add2 (n : Nat) : (n + 1 + 1 ≤ n) = False := by simp; omega
@[simp] theorem nle_add3 (n : Nat) : (n + 1 + 1 + 1 ≤ n) = False := by simp; omega
@[simp] theorem le_add2 (n : Nat) : (n ≤ n + 1 + 1) = True := by simp; omega
@[simp] theorem le_add3 (n : Nat) : (n ≤ n + 1 + 1 + 1) = True := by simp; omega
def apS (nm : Nm) (es : Nat) (rows : List (List PV)) : GV := if rows = [] then .nils else .hdr nm es rows.length 0 rows.length
def apF (key es : Nat) (rows : List (List PV)) (fr : Fr) : Fr := if rows = [] then fr else fr.ins key (.arr es rows 0 false)
theorem apS_nil {nm : Nm} {es : Nat} : apS nm es [] = .nils := rfl
theorem apF_nil {key es : Nat} {fr : Fr} : apF key es [] fr = fr := rfl
theorem Fr.ins_comm {q p : Nat} (x y : Blk) (h : q ≠ p) : ∀ f : Fr, (f.ins p y).ins q x = (f.ins q x).ins p y
  | [] => by
    simp only [Fr.ins, h, Ne.symm h, if_false]
    split
    · rename_i h1; rw [if_neg (by omega)]
    · rename_i h1; rw [if_pos (by omega)]
  | (k, b) :: r => by
    have hp : ¬ p = q := fun e => h e.symm
    by_cases h1 : p = k
    · subst h1
      by_cases h3 : q < p
      · simp [Fr.ins, h, h3, hp, show ¬ p < q by omega]
      · simp [Fr.ins, h, h3]
    · by_cases h2 : q = k
      · subst h2
        by_cases h3 : p < q
        · simp [Fr.ins, h, h3, hp, show ¬ q < p by omega]
        · simp [Fr.ins, h1, h3]
      · by_cases h3 : p < k
        · by_cases h4 : q < k
          · by_cases h5 : q < p
            · simp [Fr.ins, h, hp, h1, h2, h3, h4, h5, show ¬ p < q by omega]
            · simp [Fr.ins, h, hp, h1, h2, h3, h4, h5, show p < q by omega]
          · simp [Fr.ins, h, hp, h1, h2, h3, h4, show ¬ q < p by omega]
        · by_cases h4 : q < k
          · simp [Fr.ins, h, hp, h1, h2, h3, h4, show ¬ p < q by omega]
          · simp [Fr.ins, h1, h2, h3, h4, Fr.ins_comm x y h r]
section
variable {key es : Nat} {rows : List (List PV)} {fr : Fr} {H : Heap} {nm : Nm}
@[simp] theorem apF_get {k : Nat} (h : k ≠ key) : (apF key es rows fr).get k = fr.get k := by
 unfold apF; split
 ·rfl
 ·exact Fr.get_ins_other _ h _
@[simp] theorem apF_ins {k : Nat} {b : Blk} (h : k ≠ key) : (apF key es rows fr).ins k b = apF key es rows (fr.ins k b) := by
 unfold apF; split
 ·rfl
 ·exact Fr.ins_comm _ _ h _
theorem apF_self (h : rows ≠ []) : (apF key es rows fr).get key = some (.arr es rows 0 false) := by
 unfold apF; rw [if_neg h]; exact Fr.get_ins _ _ _
@[simp] theorem cellsO_apS : cellsO (apS nm es rows) = some [apS nm es rows] := by
 unfold apS; split <;> rfl
@[simp] theorem lowerCell_apS {l0 : Nat} (h : nm.1 ≤ l0) : lowerCell H l0 (apS nm es rows) = (apS nm es rows, H) := by
 unfold apS; split
 ·rfl
 ·simp [h]
@[simp] theorem lenD_apS {e : TypeId} : lenD (some (.slice e)) H (apS nm es rows) = some (rows.length : Int) := by
 unfold apS; split
 ·rename_i h; subst h; rfl
 ·rfl
@[simp] theorem allPure_apS {r : List GV} : allPure (apS nm es rows :: r) = none := by
 unfold apS; split <;> rfl
@[simp] theorem clean_apS_keep {l0 : Nat} (h : nm.1 ≤ l0) : clean H l0 (apS nm es rows) = apS nm es rows := by
 unfold apS; split
 ·rfl
 ·simp [h]
theorem apK_apS {l bytes : Nat} {r : List PV} {H' : Heap} (hg : rows = [] → H'.get (l, key) = none) (hg2 : rows ≠ [] → H'.get (l, key) = some (.arr es rows 0 false)) (hl : l < H'.length) (hb : (rows.length + 1) * bytes ≤ 1099511627776) (hk : key < tyBase) :
  apK l key (apS (l, key) es rows) es bytes [r] H' = some (apS (l, key) es (rows ++ [r]), H'.set (l, key) (.arr es (rows ++ [r]) 0 false)) := by
 unfold apS
 by_cases h : rows = []
 ·subst h
  have h1 := hg rfl
  have h2 : ¬ H'.length ≤ l := by omega
  have h3 : bytes ≤ 1099511627776 := by simpa using hb
  simp [h1, h2, h3]
 ·have h1 := hg2 h
  simp [h, h1, hb, lt_tyBase ▸ hk]
@[simp] theorem apK_0 {l bytes : Nat} {r : List PV} (hl : H.length = l) (hf : fr.get key = none) (hb : (rows.length + 1) * bytes ≤ 1099511627776) (hk : key < tyBase) :
  apK l key (apS (l, key) es rows) es bytes [r] (apF key es rows fr :: H) = some (apS (l, key) es (rows ++ [r]), apF key es (rows ++ [r]) fr :: H) := by
 subst hl
 rw [apK_apS (fun h => by subst h; simp [apF, hf]) (fun h => by simp [apF_self h]) (by simp) hb hk]
 simp [apF]
 split
 ·rfl
 ·rw [Fr.ins_ins]
@[simp] theorem apK_1 {l bytes : Nat} {r : List PV} {f0 : Fr} (hl : H.length = l) (hf : fr.get key = none) (hb : (rows.length + 1) * bytes ≤ 1099511627776) (hk : key < tyBase) :
  apK l key (apS (l, key) es rows) es bytes [r] (f0 :: apF key es rows fr :: H) = some (apS (l, key) es (rows ++ [r]), f0 :: apF key es (rows ++ [r]) fr :: H) := by
 subst hl
 rw [apK_apS (fun h => by subst h; simp [apF, hf]) (fun h => by simp [apF_self h]) (by simp; omega) hb hk]
 simp [apF]
 split
 ·rfl
 ·rw [Fr.ins_ins]
theorem cc_apS {l l0 : Nat} (hl : H.length = l) (h : l0 < l) : canon (clean (apF key es rows fr :: H) l0 (apS (l, key) es rows)) = .pure (.slice rows) := by
 subst hl
 unfold apS
 by_cases hr : rows = []
 ·subst hr; simp
 ·have : ¬ H.length ≤ l0 := by omega
  simp [hr, this, apF_self hr]
theorem clean1_apS {l l0 : Nat} {F : Fr} (hl : H.length = l) (h : l0 < l) (hF : rows ≠ [] → F.get key = some (.arr es rows 0 false)) : clean1 (F :: H) l0 (apS (l, key) es rows) = if rows = [] then .nils else .pure (.slice rows) := by
 subst hl
 unfold apS
 by_cases hr : rows = []
 ·subst hr; simp
 ·have : ¬ H.length ≤ l0 := by omega
  simp [hr, this, hF hr]
@[simp] theorem iaS_apS {i : Nat} (h : i < rows.length) : iaS (some (some es)) (apS nm es rows) (i : Int) = some (.eptr nm es rows.length i 0) := by
 unfold apS
 have hr : rows ≠ [] := fun e => by subst e; simp at h
 simp [hr, h]
end
end
def hdQ (h : Heap) (k : Fr → Heap → Prop) : Prop := match h with | fr :: H1 => k fr H1 | [] => False
@[simp] theorem hdQ_cons {fr : Fr} {H : Heap} {k : Fr → Heap → Prop} : hdQ (fr :: H) k = k fr H := .trans rfl rfl
def lpQ (x : Option Blk) (k : GLoop → Prop) : Prop := match x with | some (.loop l) => k l | _ => False
@[simp] theorem lpQ_loop {l : GLoop} {k : GLoop → Prop} : lpQ (some (.loop l)) k = k l := .trans rfl rfl

section
section
variable {K : Ctx} {fn : FuncId} {H : Heap}
@[simp] theorem cellsO_rhdr {nm : Nm} {es i len : Nat} : cellsO (.rhdr nm es i len) = some [.rhdr nm es i len] := .trans rfl rfl
@[simp] theorem allPure_rhdr {nm : Nm} {es i len : Nat} {r : List GV} : allPure (.rhdr nm es i len :: r) = none := .trans rfl rfl
@[simp] theorem canon1_rhdr {nm : Nm} {es i len : Nat} : canon1 (.rhdr nm es i len) = .rhdr nm es i len := .trans rfl rfl
@[simp] theorem canon_rhdr {nm : Nm} {es i len : Nat} : canon (.rhdr nm es i len) = .rhdr nm es i len := .trans rfl rfl
@[simp] theorem clean_rhdr {l0 : Nat} {nm : Nm} {es i len : Nat} : clean H l0 (.rhdr nm es i len) = if nm.1 ≤ l0 then .rhdr nm es i len else gdead := .trans rfl rfl
@[simp] theorem frzVal_rhdr {nm : Nm} {es i len : Nat} : frzVal H (.rhdr nm es i len) = (.rhdr nm es i len, H) := .trans rfl rfl
def tbLd (ag : Option Bool) (sz : Option Nat) (es i j off : Nat) (b : Option Blk) : Option GV :=
 match ag, sz, b with
 | some ag, some size, some (.mat es' rows _) =>
  if es' = es then
   (match rows[i]? with
   | some r =>
    (match r[j]? with
    | some e => if ag then (if off + size ≤ e.length then some (.pure (.agg ((e.drop off).take size))) else none) else (match e[off]? with | some p => some (.pure p) | none => none)
    | none => none)
   | none => none)
  else none
 | _, _, _ => none
@[congr] theorem tbLd_cg {ag : Option Bool} {sz : Option Nat} {es i j off : Nat} {b b' : Option Blk} (h : ∀ _ : Unit, b = b') : tbLd ag sz es i j off b = tbLd ag sz es i j off b' := by rw [h ()]
@[simp] theorem tbLd_one {sz es i j off n : Nat} {rows : List (List (List PV))} : tbLd (some false) (some sz) es i j off (some (.mat es rows n)) =
      (match rows[i]? with
      | some r =>
        (match r[j]? with
        | some e => (match e[off]? with | some p => some (.pure p) | none => none)
        | none => none)
      | none => none) := by
  simp only [tbLd, if_true]
  split <;> simp
@[simp] theorem gload_rptr {P : Program} {t : TypeId} {nm : Nm} {es i j off : Nat} : gload P t H (.rptr nm es i j off) = tbLd (tagg P t) (tsize P t) es i j off (H.get nm) := by
 unfold gload tbLd; generalize tagg P t = x; generalize tsize P t = y; simp only; generalize Heap.get H nm = z
 rcases x with _ | ag <;> rcases y with _ | sz <;> rcases z with _ | b <;> try rfl
 all_goals (cases b <;> rfl)
def tbStR (size es i j off : Nat) (ps : List PV × Heap) (nm : Nm) : Option Heap := match ps.2.get nm with
  | some (.mat es' rows n) => if es' = es then
          (match rows[i]? with
          | some r =>
            (match r[j]? with
            | some e => if off + size ≤ e.length then some (ps.2.set nm (.mat es' (rows.set i (r.set j (splice e off ps.1))) n)) else none
            | none => none)
          | none => none)
        else none
  | _ => none
@[simp] theorem gstore_rptr {P : Program} {t : TypeId} {nm : Nm} {es i j off : Nat} {v : GV} : gstore P t H (.rptr nm es i j off) v = stV (tsize P t) (cellsO v) fun size cells => tbStR size es i j off (pureCells H cells) nm := by
 unfold gstore stV
 cases tsize P t with
 | none => rfl
 | some size =>
  cases cellsO v with
  | none => rfl
  | some cells => rfl
def tbSt (size es i j off : Nat) (ps : List PV) (H : Heap) (nm : Nm) (b : Option Blk) : Option Heap := match b with
  | some (.mat es' rows n) => if es' = es then
          (match rows[i]? with
          | some r =>
            (match r[j]? with
            | some e => if off + size ≤ e.length then some (H.set nm (.mat es' (rows.set i (r.set j (splice e off ps))) n)) else none
            | none => none)
          | none => none)
        else none
  | _ => none
@[congr] theorem tbSt_cg {size es i j off : Nat} {ps : List PV} {nm : Nm} {b b' : Option Blk} (h : ∀ _ : Unit, b = b') : tbSt size es i j off ps H nm b = tbSt size es i j off ps H nm b' := by rw [h ()]
@[simp] theorem tbSt_mat {size es i j off n : Nat} {ps : List PV} {nm : Nm} {rows : List (List (List PV))} : tbSt size es i j off ps H nm (some (.mat es rows n)) =
          (match rows[i]? with
          | some r =>
            (match r[j]? with
            | some e => if off + size ≤ e.length then some (H.set nm (.mat es (rows.set i (r.set j (splice e off ps))) n)) else none
            | none => none)
          | none => none) := by
  simp only [tbSt, if_true]
@[simp] theorem tbStR_def {size es i j off : Nat} {ps : List PV} {nm : Nm} : tbStR size es i j off (ps, H) nm = tbSt size es i j off ps H nm (H.get nm) := by
 unfold tbStR tbSt; rfl
@[simp] theorem leads_nil {nm : Nm} : leads nm [] = false := .trans rfl rfl
@[simp] theorem leads_hdr {nm m : Nm} {es top lo len : Nat} {r : List GV} : leads nm (.hdr m es top lo len :: r) = (decide (m = nm) || leads nm r) := .trans rfl rfl
@[simp] theorem leads_pure {nm : Nm} {p : PV} {r : List GV} : leads nm (.pure p :: r) = leads nm r := .trans rfl rfl
@[simp] theorem leads_nils {nm : Nm} {r : List GV} : leads nm (.nils :: r) = leads nm r := .trans rfl rfl
def tbRow (H : Heap) (bn : Nm) (key es : Nat) (r : List (List PV)) (b : Option Blk) : Option (Nat × Heap) := match b with
 | none => some (0, H.set (bn.1, key) (.mat es [r] 0))
 | some (.mat es' rows n) =>
  (match H.get bn with
  | some (.box cs) => if es' = es ∧ leads (bn.1, key) cs = true then some (rows.length, H.set (bn.1, key) (.mat es (rows ++ [r]) n)) else none
  | _ => none)
 | _ => none
@[congr] theorem tbRow_cg {bn : Nm} {key es : Nat} {r : List (List PV)} {b b' : Option Blk} (h : ∀ _ : Unit, b = b') : tbRow H bn key es r b = tbRow H bn key es r b' := by rw [h ()]
@[simp] theorem tbRow_none {bn : Nm} {key es : Nat} {r : List (List PV)} : tbRow H bn key es r none = some (0, H.set (bn.1, key) (.mat es [r] 0)) := .trans rfl rfl
def tbRowC (H : Heap) (bn : Nm) (key es es' : Nat) (r : List (List PV)) (rows : List (List (List PV))) (n : Nat) (b : Option Blk) : Option (Nat × Heap) := match b with
  | some (.box cs) => if es' = es ∧ leads (bn.1, key) cs = true then some (rows.length, H.set (bn.1, key) (.mat es (rows ++ [r]) n)) else none
  | _ => none
@[congr] theorem tbRowC_cg {bn : Nm} {key es es' n : Nat} {r : List (List PV)} {rows : List (List (List PV))} {b b' : Option Blk} (h : ∀ _ : Unit, b = b') : tbRowC H bn key es es' r rows n b = tbRowC H bn key es es' r rows n b' := by rw [h ()]
@[simp] theorem tbRowC_box {bn : Nm} {key es es' n : Nat} {r : List (List PV)} {rows : List (List (List PV))} {cs : List GV} : tbRowC H bn key es es' r rows n (some (.box cs)) =
  if es' = es ∧ leads (bn.1, key) cs = true then some (rows.length, H.set (bn.1, key) (.mat es (rows ++ [r]) n)) else none := .trans rfl rfl
@[simp] theorem tbRow_mat {bn : Nm} {key es es' n : Nat} {r : List (List PV)} {rows : List (List (List PV))} : tbRow H bn key es r (some (.mat es' rows n)) = tbRowC H bn key es es' r rows n (H.get bn) := by
 unfold tbRow tbRowC; rfl
@[simp] theorem addRow_def {bn : Nm} {key es : Nat} {r : List (List PV)} : addRow H bn key es r = if H.length ≤ bn.1 then none else tbRow H bn key es r (H.get (bn.1, key)) := by
 unfold addRow tbRow; rfl
def tbTell (H : Heap) (bytes : Nat) (s : GV) (nm : Nm) (es i len : Nat) (b : Option Blk) : Option (GV × Heap) := match b with
 | some (.mat es' rows n) =>
  if es' = es ∧ i = n ∧ n < rows.length ∧ (rows.getD n []).length = len ∧ (n + 1) * bytes ≤ 1099511627776 then
   match s with
   | .nils => if n = 0 then some (.hdr nm 1 1 0 1, H.set nm (.mat es rows 1)) else none
   | .hdr nm' es1 top lo ln => if nm' = nm ∧ es1 = 1 ∧ top = n ∧ lo = 0 ∧ ln = n then some (.hdr nm 1 (n + 1) 0 (n + 1), H.set nm (.mat es rows (n + 1))) else none
   | _ => none
  else none
 | _ => none
@[congr] theorem tbTell_cg {bytes : Nat} {s : GV} {nm : Nm} {es i len : Nat} {b b' : Option Blk} (h : ∀ _ : Unit, b = b') : tbTell H bytes s nm es i len b = tbTell H bytes s nm es i len b' := by rw [h ()]
@[simp] theorem tbTell_nils {bytes : Nat} {nm : Nm} {es es' i len n : Nat} {rows : List (List (List PV))} : tbTell H bytes .nils nm es i len (some (.mat es' rows n)) =
  if es' = es ∧ i = n ∧ n < rows.length ∧ (rows.getD n []).length = len ∧ (n + 1) * bytes ≤ 1099511627776 then (if n = 0 then some (.hdr nm 1 1 0 1, H.set nm (.mat es rows 1)) else none) else none := .trans rfl rfl
@[simp] theorem tbTell_hdr {bytes : Nat} {nm nm' : Nm} {es es' i len n es1 top lo ln : Nat} {rows : List (List (List PV))} : tbTell H bytes (.hdr nm' es1 top lo ln) nm es i len (some (.mat es' rows n)) =
  if es' = es ∧ i = n ∧ n < rows.length ∧ (rows.getD n []).length = len ∧ (n + 1) * bytes ≤ 1099511627776 then (if nm' = nm ∧ es1 = 1 ∧ top = n ∧ lo = 0 ∧ ln = n then some (.hdr nm 1 (n + 1) 0 (n + 1), H.set nm (.mat es rows (n + 1))) else none) else none := .trans rfl rfl
@[simp] theorem tellRow_def {bytes : Nat} {s : GV} {nm : Nm} {es i len : Nat} : tellRow H bytes s nm es i len = tbTell H bytes s nm es i len (H.get nm) := by
 unfold tellRow tbTell; rfl
def tbGap (ta : Option (Option Nat × Option Nat × Option Nat)) (k : Nat → Nat → Option (GV × Heap)) : Option (GV × Heap) :=
 match ta with
 | some (some size, some bytes, zs) => if zs = some size ∧ 0 < size ∧ 0 < bytes ∧ bytes ≤ 1048576 then k size bytes else none
 | _ => none
@[congr] theorem tbGap_cg {ta ta' : Option (Option Nat × Option Nat × Option Nat)} {k : Nat → Nat → Option (GV × Heap)} (h : ∀ _ : Unit, ta = ta') : tbGap ta k = tbGap ta' k := by rw [h ()]
@[simp] theorem tbGap_some {size bytes : Nat} {zs : Option Nat} {k : Nat → Nat → Option (GV × Heap)} : tbGap (some (some size, some bytes, zs)) k = if zs = some size ∧ 0 < size ∧ 0 < bytes ∧ bytes ≤ 1048576 then k size bytes else none := .trans rfl rfl
def tbLay (bn : Nm) (key size bytes : Nat) (x : Option (List (List PV) × Heap)) : Option (GV × Heap) := match x with
 | some (xs, H) => if xs.all (fun r => r.length == size) && !xs.isEmpty && decide (xs.length * bytes ≤ 1099511627776) then
   (match addRow H bn key size xs with | some (i, H) => some (.rhdr (bn.1, key) size i xs.length, H) | none => none) else none
 | none => none
@[congr] theorem tbLay_cg {bn : Nm} {key size bytes : Nat} {x x' : Option (List (List PV) × Heap)} (h : ∀ _ : Unit, x = x') : tbLay bn key size bytes x = tbLay bn key size bytes x' := by rw [h ()]
@[simp] theorem tbLay_some {bn : Nm} {key size bytes : Nat} {xs : List (List PV)} : tbLay bn key size bytes (some (xs, H)) = if xs.all (fun r => r.length == size) && !xs.isEmpty && decide (xs.length * bytes ≤ 1099511627776) then
      (match addRow H bn key size xs with | some (i, H) => some (.rhdr (bn.1, key) size i xs.length, H) | none => none) else none := .trans rfl rfl
@[simp] theorem layRow_nils {bn : Nm} {key size bytes : Nat} {x : GV} : layRow H bn key size bytes .nils x = tbLay bn key size bytes (gelems H x) := by
 unfold layRow tbLay
 cases gelems H x <;> rfl
theorem gappendR_def {bn : Nm} {key : Nat} {t : TypeId} {s x : GV} : gappendR K H bn key t s x = tbGap (tapp K.P t) fun size bytes => match rowLit x with | some (nm, es, i, len) => if size = 1 then tellRow H bytes s nm es i len else none | none => layRow H bn key size bytes s x := by
 unfold gappendR tbGap tapp
 cases telem K.P t with
 | none => rfl
 | some e =>
  simp only [Option.map_some]
  cases tsize K.P e with
  | none => rfl
  | some size =>
   cases tbytes K.P e with
   | none => rfl
   | some bytes =>
    simp only [Bool.and_eq_true, decide_eq_true_eq, and_assoc]
    rfl
@[simp] theorem gappendR_lits {bn : Nm} {key : Nat} {t : TypeId} {s : GV} {nm : Nm} {es i len : Nat} : gappendR K H bn key t s (.lits [[.rhdr nm es i len]]) = tbGap (tapp K.P t) fun size bytes => if size = 1 then tellRow H bytes s nm es i len else none := by
 rw [gappendR_def]; rfl
@[simp] theorem gappendR_pure {bn : Nm} {key : Nat} {t : TypeId} {s : GV} {p : PV} : gappendR K H bn key t s (.pure p) = tbGap (tapp K.P t) fun size bytes => layRow H bn key size bytes s (.pure p) := by
 rw [gappendR_def]; rfl
@[simp] theorem gappendR_hdr {bn : Nm} {key : Nat} {t : TypeId} {s : GV} {nm : Nm} {es top lo len : Nat} : gappendR K H bn key t s (.hdr nm es top lo len) = tbGap (tapp K.P t) fun size bytes => layRow H bn key size bytes s (.hdr nm es top lo len) := by
 rw [gappendR_def]; rfl
end
end
section
structure Scoring where
 packet : Int
 pair : Int
 whole : Int
 new : Int
 loss : Int
 keys : List Int
 deriving DecidableEq
structure Score where
 points : Int
 packets : Int
 wrong : Int
 pairs : Int
 new : Int
 whole : Int
 start : Int
 honour : Int
 deriving DecidableEq
def irow (n : Int) : List PV := [.int .i64 n]
def Scoring.row (s : Scoring) : List PV := [.int .i64 s.packet, .int .i64 s.pair, .int .i64 s.whole, .int .i64 s.new, .int .i64 s.loss, .slice (s.keys.map irow)]
def Score.row (x : Score) : List PV := [.int .i64 x.points, .int .i64 x.packets, .int .i64 x.wrong, .int .i64 x.pairs, .int .i64 x.new, .int .i64 x.whole, .int .i64 x.start, .int .i64 x.honour]
@[simp] theorem KC_keep {f : Nat} : KC.keep f = keepL.contains f := .trans rfl rfl
attribute [simp] keepL
@[simp] theorem clean_gdead {H : Heap} {l0 : Nat} : clean H l0 gdead = gdead := .trans rfl rfl
section
variable {f c : Nat} {H : Heap} {args : List GV} {p : PV}
theorem bor_c (hc : KC.cln f = false) (hb : KC.bor f = true) (hz : (frzVals H args).1.map canon = args) (hq : borBox args = some none) (hfl : flatP p = true) (hH : 0 < H.length)
  (h0 : ∀ H : Heap, 0 < H.length → gcall0 KC (geval KC) f args c H = some (.pure p, H)) : gcall KC (geval KC) f args c H = some (.pure p, H) := bor_flat KC hc hb hz hq hH h0 hfl
end
variable {c : Nat} {H : Heap}
def inB (x lo hi : Int) : Bool := decide (lo ≤ x) && decide (x ≤ hi)
theorem withinP_ok {x lo hi : Int} (hH : 0 < H.length) : gcall KC (geval KC) 77 [.pure (.int .i64 x), .pure (.int .i64 lo), .pure (.int .i64 hi)] c H = some (.pure (.bool (inB x lo hi)), H) := by
 refine WPv_eq (call_enter KC needT Try.func77 rfl rfl good77 rfl rfl rfl (by simp) hH ?_)
 by_cases h : lo ≤ x
 ·simp [h, inB, gleave_free]
 ·simp [h, inB, gleave_free]
theorem inB_iff {x lo hi : Int} : inB x lo hi = true ↔ lo ≤ x ∧ x ≤ hi := by simp [inB]
end
section
variable {c : Nat} {H : Heap}
noncomputable def turnS : Int → Int := hid fun w => IntKind.u64.wrap (w + 11507291218515648293)
theorem turnS_def (w : Int) : turnS w = IntKind.u64.wrap (w + 11507291218515648293) := by rw [turnS, hid_eq]
def xors (x n : Int) : Int := bxor .u64 x (x.fdiv n)
noncomputable def turnV : Int → Int := hid fun w => xors (IntKind.u64.wrap (xors (IntKind.u64.wrap (xors (IntKind.u64.wrap (w + 11507291218515648293)) 4294967296 * 15485907386658061715)) 536870912 * 14029467366897019727)) 4294967296
theorem turnV_def (w : Int) : turnV w = xors (IntKind.u64.wrap (xors (IntKind.u64.wrap (xors (IntKind.u64.wrap (w + 11507291218515648293)) 4294967296 * 15485907386658061715)) 536870912 * 14029467366897019727)) 4294967296 := by rw [turnV, hid_eq]
theorem u64_rng (x : Int) : 0 ≤ IntKind.u64.wrap x ∧ IntKind.u64.wrap x ≤ 18446744073709551615 := by rw [IntKind.wrap_u64]; omega
theorem turnV_rng (w : Int) : 0 ≤ turnV w ∧ turnV w ≤ 18446744073709551615 := by rw [turnV_def]; exact u64_rng _
@[simp] theorem bits_u64 : IntKind.u64.bits = 64 := rfl
@[simp] theorem bits_i64 : IntKind.i64.bits = 64 := rfl
theorem turn_ok {nm : Nm} (hB : isBox H nm) : gcall KC (geval KC) 54 [.bptr nm 0] c H = some (.pure (.int .u64 (turnV (wordAt H nm))), H.set nm (wbox (turnS (wordAt H nm)))) := by
 have hl := isBox_lt hB
 have hg := isBox_get hB
 refine WPv_eq (call_enter KC needT Try.func54 rfl rfl good54 rfl rfl rfl (by simp) (by omega) ?_)
 have hne : ¬ nm.1 = H.length := by omega
 have h1 : (IntKind.u64.wrap 32) = 32 := rfl
 generalize wordAt H nm = w at *
 unfold wbox at *
 simp [hne, hl, hg, gleave_free, turnV_def, turnS_def, xors]
noncomputable def upR : Int → Int → Int × Int := hid fun w n =>
 if n < 2 then (0, w) else (IntKind.i64.wrap (((turnV w).fdiv 2).tmod (IntKind.u64.wrap n)), turnS w)
theorem upR_def (w : Int) (n : Int) : upR w n =
 (if n < 2 then (0, w) else (IntKind.i64.wrap (((turnV w).fdiv 2).tmod (IntKind.u64.wrap n)), turnS w)) := by rw [upR, hid_eq]
theorem upR_rng (w n : Int) (h : n ≤ 9223372036854775807) : 0 ≤ (upR w n).1 ∧ ((upR w n).1 < n ∨ (upR w n).1 = 0) := by
 rw [upR_def]
 split
 ·simp
 ·have h1 := turnV_rng w
  have h2 : IntKind.u64.wrap n = n := by rw [IntKind.wrap_u64]; omega
  have h3 : 0 ≤ (turnV w).fdiv 2 := Int.fdiv_nonneg h1.1 (by omega)
  rw [h2, Int.tmod_eq_emod_of_nonneg h3]
  have h4 := Int.emod_nonneg ((turnV w).fdiv 2) (show n ≠ 0 by omega)
  have h5 := Int.emod_lt_of_pos ((turnV w).fdiv 2) (show 0 < n by omega)
  rw [w64 (by omega) (by omega)]
  exact ⟨h4, .inl h5⟩
theorem up_ok {nm : Nm} {n : Int} (hB : isBox H nm) (hn : n ≤ 9223372036854775807) : gcall KC (geval KC) 32 [.bptr nm 0, .pure (.int .i64 n)] c H = some (.pure (.int .i64 (upR (wordAt H nm) n).1), H.set nm (wbox (upR (wordAt H nm) n).2)) := by
 have hl := isBox_lt hB
 have hs := isBox_set hB
 refine WPv_eq (call_enter KC needT Try.func32 rfl rfl good32 rfl rfl rfl (by simp) (by omega) ?_)
 have hne : ¬ nm.1 = H.length := by omega
 by_cases h : n < 2
 ·simp [h, upR_def, hs, gleave_free]
 ·have h2 : IntKind.u64.wrap n = n := by rw [IntKind.wrap_u64]; omega
  have h3 : ¬ n = 0 := by omega
  have h4 : ¬ IntKind.u64.wrap n = 0 := by rw [h2]; exact h3
  simp [h, upR_def, turn_ok (isBox_up hB), wordAt_up hl, Heap.set_up hl, gleave_free, h4]
noncomputable def anyR : Int → Int → Int → Int × Int := hid fun w lo hi =>
 let r := upR w (IntKind.i64.wrap (IntKind.i64.wrap (hi - lo) + 1))
 (IntKind.i64.wrap (lo + r.1), r.2)
theorem anyR_def (w : Int) (lo : Int) (hi : Int) : anyR w lo hi =
 (let r := upR w (IntKind.i64.wrap (IntKind.i64.wrap (hi - lo) + 1))
 (IntKind.i64.wrap (lo + r.1), r.2)) := by rw [anyR, hid_eq]
theorem i64_rng (x : Int) : -9223372036854775808 ≤ IntKind.i64.wrap x ∧ IntKind.i64.wrap x ≤ 9223372036854775807 := by rw [IntKind.wrap_i64]; omega
theorem anyR_rng (w lo hi : Int) (h0 : -4611686018427387903 ≤ lo) (h1 : hi ≤ 4611686018427387903) (h : lo ≤ hi) : lo ≤ (anyR w lo hi).1 ∧ (anyR w lo hi).1 ≤ hi := by
 rw [anyR_def]
 rw [w64 (x := hi - lo) (by omega) (by omega), w64 (x := hi - lo + 1) (by omega) (by omega)]
 have := upR_rng w (hi - lo + 1) (by omega)
 simp only
 rw [w64 (by omega) (by omega)]
 omega
theorem any_ok {nm : Nm} {lo hi : Int} (hB : isBox H nm) : gcall KC (geval KC) 25 [.bptr nm 0, .pure (.int .i64 lo), .pure (.int .i64 hi)] c H = some (.pure (.int .i64 (anyR (wordAt H nm) lo hi).1), H.set nm (wbox (anyR (wordAt H nm) lo hi).2)) := by
 have hl := isBox_lt hB
 refine WPv_eq (call_enter KC needT Try.func25 rfl rfl good25 rfl rfl rfl (by simp) (by omega) ?_)
 have hr := (i64_rng (IntKind.i64.wrap (hi - lo) + 1)).2
 simp [anyR_def, up_ok (isBox_up hB) hr, wordAt_up hl, Heap.set_up hl, gleave_free]
noncomputable def oneR : Int → Int → Bool × Int := hid fun w n =>
 ((upR w n).1 == 0, (upR w n).2)
theorem oneR_def (w : Int) (n : Int) : oneR w n =
 (((upR w n).1 == 0, (upR w n).2)) := by rw [oneR, hid_eq]
theorem one_ok {nm : Nm} {n : Int} (hB : isBox H nm) (hn : n ≤ 9223372036854775807) : gcall KC (geval KC) 49 [.bptr nm 0, .pure (.int .i64 n)] c H = some (.pure (.bool (oneR (wordAt H nm) n).1), H.set nm (wbox (oneR (wordAt H nm) n).2)) := by
 have hl := isBox_lt hB
 refine WPv_eq (call_enter KC needT Try.func49 rfl rfl good49 rfl rfl rfl (by simp) (by omega) ?_)
 simp [oneR_def, up_ok (isBox_up hB) hn, wordAt_up hl, Heap.set_up hl, gleave_free]
noncomputable def pickR : Int → List Int → Int × Int := hid fun w l =>
 if l.length = 0 then (0, w) else (l.getD (upR w l.length).1.toNat 0, (upR w l.length).2)
theorem pickR_def (w : Int) (l : List Int) : pickR w l =
 (if l.length = 0 then (0, w) else (l.getD (upR w l.length).1.toNat 0, (upR w l.length).2)) := by rw [pickR, hid_eq]
theorem pick_ok {nm : Nm} {l : List Int} (hB : isBox H nm) (hn : l.length < 4611686018427387904) : gcall KC (geval KC) 56 [.bptr nm 0, .pure (.slice (l.map irow))] c H = some (.pure (.int .i64 (pickR (wordAt H nm) l).1), H.set nm (wbox (pickR (wordAt H nm) l).2)) := by
 have hl := isBox_lt hB
 have hs := isBox_set hB
 refine WPv_eq (call_enter KC needT Try.func56 rfl rfl good56 rfl rfl rfl (by simp) (by omega) ?_)
 by_cases h : l.length = 0
 ·obtain rfl : l = [] := List.length_eq_zero_iff.1 h
  simp [pickR_def, hs, gleave_free]
 ·have h2 : ((l.length : Int) == 0) = false := beq_eq_false_iff_ne.2 (by omega)
  have hr := upR_rng (wordAt H nm) l.length (by omega)
  have h3 : ¬ (upR (wordAt H nm) l.length).1 < 0 := by omega
  have h4 : (upR (wordAt H nm) l.length).1.toNat < l.length := by have := hr; clear hl hs hB; omega
  simp [h, h2, pickR_def, up_ok (isBox_up hB) (show (l.length : Int) ≤ 9223372036854775807 by omega), wordAt_up hl, Heap.set_up hl, gleave_free, h3, h4, irow]
theorem gleave_keep {K : Ctx} {f : Nat} {c : Nat} {r : GV} {fr : Fr} (h : K.keep f = true) : gleave K f c r (fr :: H) = (match moveOut (clM c fr H (dedup (deepRefs fr H.length (refs H.length r))) (H.length - 1)) fr H c (dedup (deepRefs fr H.length (refs H.length r))) H with | some H' => some (ren H.length c r, H') | none => none) := by
 unfold gleave; simp only [h, if_true]; rfl
theorem box_loop (l : List Int) (hn : l.length ≤ 9223372036854775807) (Q : GX → GSt → Prop) (hH : 0 < H.length) : ∀ (k i : Nat) (w : Int), i + k = l.length →
  (∀ w', Q (.exit 0) ⟨[(3, .bptr (H.length, 6) 0)], [(6, wbox w')] :: H, 30⟩) →
  WPL KC needT 14 (lp Try.f14 0) [0, 3, 4] [3] Q [(0, .pure (.slice (l.map irow))), (3, .bptr (H.length, 6) 0), (4, .pure (.int .i64 i))] ([(6, wbox w)] :: H) 30 := by
 intro k
 induction k with
 | zero =>
  intro i w hi h1
  have hia : ¬ i < l.length := by omega
  apply WPL_step
  conv => arg 4; whnf
  simp [hia, hH]
  exact h1 w
 | succ k ih =>
  intro i w hi h1
  have hia : i < l.length := by omega
  have hw := w64 (x := (i : Int) + 1) (by omega) (by omega)
  have ih' := fun w => ih (i + 1) w (by omega) h1
  apply WPL_step
  conv => arg 4; whnf
  have T := fun (v : Int) (c : Nat) => turn_ok (c := c) (H := [] :: [(6, wbox v)] :: H) (nm := (H.length, 6)) ⟨v, by simp, by simp⟩
  simp [wordAt, wbox] at T
  simp [hia, hH, irow, hw, wbox, T]
  simpa [wbox] using ih' _
theorem BoxOf_ok (l : List Int) (hn : l.length ≤ 9223372036854775807) (hH : 0 < H.length) (hfree : H.get (H.length - 1, newKey c 6) = none) (hcc : newKey c 6 < tyBase) :
  ∃ w, gcall KC (geval KC) 14 [.pure (.slice (l.map irow))] c H = some (.bptr (H.length - 1, newKey c 6) 0, H.set (H.length - 1, newKey c 6) (wbox w)) := by
 have key : WPv (gcall KC (geval KC) 14 [.pure (.slice (l.map irow))] c H) (fun x => ∃ w, x = (.bptr (H.length - 1, newKey c 6) 0, H.set (H.length - 1, newKey c 6) (wbox w))) := by
  refine call_enter KC needT Try.func14 rfl rfl good14 rfl rfl rfl (by simp) hH ?_
  have h0 := fun Q hq => box_loop l hn Q hH l.length 0 2685821657736338717 (by omega) hq
  simp [wbox] at h0
  simp
  refine h0 _ (fun w => ?_)
  simp [gleave_keep, KC_keep, refs, refs2, refs1, deepRefs, boxRefs, matRefs, dedup, moveOut, cleanBlk, clM, tyOk_lt hcc, hfree, ren, ren2, ren1]
  exact ⟨w, rfl⟩
 obtain ⟨r, e1, w, e2⟩ := key
 exact ⟨w, by rw [e1, e2]⟩
end
section
structure Deal where
 kind : Int
 bag : Int
 other : Int
 wood : Int
 count : Int
 deriving DecidableEq
def Deal.row (d : Deal) : List PV := [.int .i64 d.kind, .int .i64 d.bag, .int .i64 d.other, .int .i64 d.wood, .int .i64 d.count]
structure Wood where
 name : List UInt8
 fam : Int
 deriving DecidableEq
def Wood.row (x : Wood) : List PV := [.str x.name, .int .i64 x.fam]
structure Chk where
 woods : Int
 mixed : Int
 censers : Int
 tried : List Bool
 bags : List Int
def gi (n : Int) : GV := .pure (.int .i64 n)
def gb (b : Bool) : GV := .pure (.bool b)
def Chk.cells (k : Chk) : List GV := gi k.woods :: gi k.mixed :: gi k.censers :: (k.tried.map gb ++ k.bags.map gi)
def chkBox (k : Chk) : Blk := .box k.cells
variable {c : Nat} {H : Heap}
theorem in_ok {x lo hi : Int} (hH : 0 < H.length) : gcall KC (geval KC) 60 [.pure (.int .i64 x), .pure (.int .i64 lo), .pure (.int .i64 hi)] c H = some (.pure (.bool (inB x lo hi)), H) := by
 refine WPv_eq (call_enter KC needT Try.func60 rfl rfl good60 rfl rfl rfl (by simp) hH ?_)
 by_cases h : lo ≤ x
 ·simp [h, inB, gleave_free]
 ·simp [h, inB, gleave_free]
section
variable {nm : Nm} {k : Chk} {d : Deal}
theorem wood_ok (hl : nm.1 < H.length) (hg : H.get nm = some (chkBox k)) (h0 : 0 ≤ d.wood) (h1 : d.wood < k.woods) (h2 : k.woods ≤ 6) : gcall KC (geval KC) 150 [.bptr nm 0, .pure (.agg d.row)] c H = some (.pure (.int .i64 0), H) := by
 refine WPv_eq (call_enter KC needT Try.func150 rfl rfl good150 rfl rfl rfl (by simp) (by omega) ?_)
 have hne : ¬ nm.1 = H.length := by omega
 have hw := w64 (x := k.woods - 1) (by omega) (by omega)
 have I := fun c (G : Heap) (hG : 0 < G.length) => in_ok (c := c) (H := G) (x := d.wood) (lo := 0) (hi := k.woods - 1) hG
 have hb : inB d.wood 0 (k.woods - 1) = true := by rw [inB_iff]; omega
 rw [hb] at I
 unfold chkBox Chk.cells gi at hg
 simp [Deal.row, hne, hl, hg, hw, I, gleave_free]
theorem more_ok {n : Int} (hl : nm.1 < H.length) (hg : H.get nm = some (chkBox k)) (h0 : 0 ≤ n) (h1 : 0 ≤ k.censers) (h2 : k.censers + n ≤ 9) : gcall KC (geval KC) 151 [.bptr nm 0, .pure (.int .i64 n)] c H = some (.pure (.int .i64 0), H.set nm (chkBox { k with censers := k.censers + n })) := by
 refine WPv_eq (call_enter KC needT Try.func151 rfl rfl good151 rfl rfl rfl (by simp) (by omega) ?_)
 have hne : ¬ nm.1 = H.length := by omega
 have hw := w64 (x := k.censers + n) (by omega) (by omega)
 have hn : ¬ 9 < k.censers + n := by omega
 unfold chkBox Chk.cells gi at hg ⊢
 simp [hne, hl, hg, hw, hn, gleave_free]
theorem mix_ok (hl : nm.1 < H.length) (hg : H.get nm = some (chkBox k)) (h0 : 0 ≤ d.wood) (h1 : d.wood < k.woods) (h2 : k.woods ≤ 6) (hb0 : 0 ≤ d.bag) (hb1 : d.bag ≤ 3) (hc0 : 1 ≤ d.count) (hc1 : d.count ≤ 12)
  (hm0 : 0 ≤ k.mixed) (hm : k.mixed + d.count ≤ 12) (ht : k.tried.length = 6) (hB : k.bags.length = 4) (hx : ∀ x ∈ k.bags, 0 ≤ x ∧ x ≤ 1000) :
  gcall KC (geval KC) 129 [.bptr nm 0, .pure (.agg d.row)] c H = some (.pure (.int .i64 0), H.set nm (chkBox { k with mixed := k.mixed + d.count, bags := k.bags.set d.bag.toNat (k.bags.getD d.bag.toNat 0 + d.count) })) := by
 refine WPv_eq (call_enter KC needT Try.func129 rfl rfl good129 rfl rfl rfl (by simp) (by omega) ?_)
 have hne : ¬ nm.1 = H.length := by omega
 have hw := w64 (x := k.mixed + d.count) (by omega) (by omega)
 have hn : ¬ 12 < k.mixed + d.count := by omega
 have I := fun x lo hi c (G : Heap) (hG : 0 < G.length) => in_ok (c := c) (H := G) (x := x) (lo := lo) (hi := hi) hG
 have i1 : inB d.bag 0 3 = true := by rw [inB_iff]; omega
 have i2 : inB d.count 1 12 = true := by rw [inB_iff]; omega
 have W := fun c (F : Fr) => wood_ok (d := d) (k := k) (c := c) (H := F :: H) (nm := nm) (by simp; omega) (by simpa [hne] using hg) h0 h1 h2
 obtain ⟨kw, km, kc, kt, kb⟩ := k
 obtain ⟨t0, t1, t2, t3, t4, t5, rfl⟩ : ∃ t0 t1 t2 t3 t4 t5, kt = [t0, t1, t2, t3, t4, t5] := by
  match kt, ht with
  | [a, b, c, d, e, f], _ => exact ⟨a, b, c, d, e, f, rfl⟩
 obtain ⟨b0, b1, b2, b3, rfl⟩ : ∃ b0 b1 b2 b3, kb = [b0, b1, b2, b3] := by
  match kb, hB with
  | [a, b, c, d], _ => exact ⟨a, b, c, d, rfl⟩
 simp at hx
 unfold chkBox Chk.cells gi gb at hg ⊢
 simp only [Deal.row] at W ⊢
 obtain ⟨dk, db, dO, dw, dc⟩ := d
 simp only at hb0 hb1 hc0 hc1 hw hn i1 i2 W h0 h1 hm ⊢
 have hcase : db = 0 ∨ db = 1 ∨ db = 2 ∨ db = 3 := by omega
 rcases hcase with rfl | rfl | rfl | rfl
 ·have hw2 := w64 (x := b0 + dc) (by omega) (by omega)
  simp [hne, hl, hg, hw, hn, I, i1, i2, W, hw2, gleave_free]
 ·have hw2 := w64 (x := b1 + dc) (by omega) (by omega)
  simp [hne, hl, hg, hw, hn, I, i1, i2, W, hw2, gleave_free]
 ·have hw2 := w64 (x := b2 + dc) (by omega) (by omega)
  simp [hne, hl, hg, hw, hn, I, i1, i2, W, hw2, gleave_free]
 ·have hw2 := w64 (x := b3 + dc) (by omega) (by omega)
  simp [hne, hl, hg, hw, hn, I, i1, i2, W, hw2, gleave_free]
theorem trial_ok (hl : nm.1 < H.length) (hg : H.get nm = some (chkBox k)) (h0 : 0 ≤ d.wood) (h1 : d.wood < k.woods) (h2 : k.woods ≤ 6) (ht : k.tried.length = 6) (hB : k.bags.length = 4) (hf : k.tried.getD d.wood.toNat false = false) :
  gcall KC (geval KC) 128 [.bptr nm 0, .pure (.agg d.row)] c H = some (.pure (.int .i64 0), H.set nm (chkBox { k with tried := k.tried.set d.wood.toNat true })) := by
 refine WPv_eq (call_enter KC needT Try.func128 rfl rfl good128 rfl rfl rfl (by simp) (by omega) ?_)
 have hne : ¬ nm.1 = H.length := by omega
 have W := fun c (F : Fr) => wood_ok (d := d) (k := k) (c := c) (H := F :: H) (nm := nm) (by simp; omega) (by simpa [hne] using hg) h0 h1 h2
 obtain ⟨kw, km, kc, kt, kb⟩ := k
 obtain ⟨t0, t1, t2, t3, t4, t5, rfl⟩ : ∃ t0 t1 t2 t3 t4 t5, kt = [t0, t1, t2, t3, t4, t5] := by
  match kt, ht with
  | [a, b, c, d, e, f], _ => exact ⟨a, b, c, d, e, f, rfl⟩
 obtain ⟨b0, b1, b2, b3, rfl⟩ : ∃ b0 b1 b2 b3, kb = [b0, b1, b2, b3] := by
  match kb, hB with
  | [a, b, c, d], _ => exact ⟨a, b, c, d, rfl⟩
 unfold chkBox Chk.cells gi gb at hg ⊢
 simp only [Deal.row] at W ⊢
 obtain ⟨dk, db, dO, dw, dc⟩ := d
 simp only at W h0 h1 h2 hf ⊢
 have hcase : dw = 0 ∨ dw = 1 ∨ dw = 2 ∨ dw = 3 ∨ dw = 4 ∨ dw = 5 := by omega
 rcases hcase with rfl | rfl | rfl | rfl | rfl | rfl
 all_goals
  simp at hf
  subst hf
  simp [hne, hl, hg, W, gleave_free]
theorem pour_ok (hl : nm.1 < H.length) (hg : H.get nm = some (chkBox k)) (hb0 : 0 ≤ d.bag) (hb1 : d.bag ≤ 3) (ho0 : 0 ≤ d.other) (ho1 : d.other ≤ 3) (hn : d.bag ≠ d.other) (ht : k.tried.length = 6) (hB : k.bags.length = 4) (hx : ∀ x ∈ k.bags, 0 ≤ x ∧ x ≤ 1000) :
  gcall KC (geval KC) 130 [.bptr nm 0, .pure (.agg d.row)] c H = some (.pure (.int .i64 0), H.set nm (chkBox { k with bags := (k.bags.set d.other.toNat (k.bags.getD d.other.toNat 0 + k.bags.getD d.bag.toNat 0)).set d.bag.toNat 0 })) := by
 refine WPv_eq (call_enter KC needT Try.func130 rfl rfl good130 rfl rfl rfl (by simp) (by omega) ?_)
 have hne : ¬ nm.1 = H.length := by omega
 have I := fun x lo hi c (G : Heap) (hG : 0 < G.length) => in_ok (c := c) (H := G) (x := x) (lo := lo) (hi := hi) hG
 have i1 : inB d.bag 0 3 = true := by rw [inB_iff]; omega
 have i2 : inB d.other 0 3 = true := by rw [inB_iff]; omega
 obtain ⟨kw, km, kc, kt, kb⟩ := k
 obtain ⟨t0, t1, t2, t3, t4, t5, rfl⟩ : ∃ t0 t1 t2 t3 t4 t5, kt = [t0, t1, t2, t3, t4, t5] := by
  match kt, ht with
  | [a, b, c, d, e, f], _ => exact ⟨a, b, c, d, e, f, rfl⟩
 obtain ⟨b0, b1, b2, b3, rfl⟩ : ∃ b0 b1 b2 b3, kb = [b0, b1, b2, b3] := by
  match kb, hB with
  | [a, b, c, d], _ => exact ⟨a, b, c, d, rfl⟩
 simp at hx
 unfold chkBox Chk.cells gi gb at hg ⊢
 simp only [Deal.row]
 obtain ⟨dk, db, dO, dw, dc⟩ := d
 simp only at hb0 hb1 ho0 ho1 hn i1 i2 ⊢
 have hcase : db = 0 ∨ db = 1 ∨ db = 2 ∨ db = 3 := by omega
 have hcase2 : dO = 0 ∨ dO = 1 ∨ dO = 2 ∨ dO = 3 := by omega
 have w2 : ∀ x y : Int, 0 ≤ x ∧ x ≤ 1000 → 0 ≤ y ∧ y ≤ 1000 → IntKind.i64.wrap (x + y) = x + y := fun x y h h' => w64 (by omega) (by omega)
 obtain ⟨x0, x1, x2, x3⟩ := hx
 have s01 := w2 _ _ x0 x1
 have s02 := w2 _ _ x0 x2
 have s03 := w2 _ _ x0 x3
 have s10 := w2 _ _ x1 x0
 have s12 := w2 _ _ x1 x2
 have s13 := w2 _ _ x1 x3
 have s20 := w2 _ _ x2 x0
 have s21 := w2 _ _ x2 x1
 have s23 := w2 _ _ x2 x3
 have s30 := w2 _ _ x3 x0
 have s31 := w2 _ _ x3 x1
 have s32 := w2 _ _ x3 x2
 rcases hcase with rfl | rfl | rfl | rfl <;> rcases hcase2 with rfl | rfl | rfl | rfl
 all_goals first
  | exact absurd rfl hn
  | simp [hne, hl, hg, I, i1, i2, s01, s02, s03, s10, s12, s13, s20, s21, s23, s30, s31, s32, gleave_free]
theorem aside_ok (hl : nm.1 < H.length) (hg : H.get nm = some (chkBox k)) (hb0 : 0 ≤ d.bag) (hb1 : d.bag ≤ 3) (hc0 : 1 ≤ d.count) (hc1 : d.count ≤ 12) (ht : k.tried.length = 6) (hB : k.bags.length = 4) (hx : ∀ x ∈ k.bags, 0 ≤ x ∧ x ≤ 1000)
  (hle : d.count ≤ k.bags.getD d.bag.toNat 0) :
  gcall KC (geval KC) 131 [.bptr nm 0, .pure (.agg d.row)] c H = some (.pure (.int .i64 0), H.set nm (chkBox { k with bags := k.bags.set d.bag.toNat (k.bags.getD d.bag.toNat 0 - d.count) })) := by
 refine WPv_eq (call_enter KC needT Try.func131 rfl rfl good131 rfl rfl rfl (by simp) (by omega) ?_)
 have hne : ¬ nm.1 = H.length := by omega
 have I := fun x lo hi c (G : Heap) (hG : 0 < G.length) => in_ok (c := c) (H := G) (x := x) (lo := lo) (hi := hi) hG
 have i1 : inB d.bag 0 3 = true := by rw [inB_iff]; omega
 have i2 : inB d.count 1 12 = true := by rw [inB_iff]; omega
 obtain ⟨kw, km, kc, kt, kb⟩ := k
 obtain ⟨t0, t1, t2, t3, t4, t5, rfl⟩ : ∃ t0 t1 t2 t3 t4 t5, kt = [t0, t1, t2, t3, t4, t5] := by
  match kt, ht with
  | [a, b, c, d, e, f], _ => exact ⟨a, b, c, d, e, f, rfl⟩
 obtain ⟨b0, b1, b2, b3, rfl⟩ : ∃ b0 b1 b2 b3, kb = [b0, b1, b2, b3] := by
  match kb, hB with
  | [a, b, c, d], _ => exact ⟨a, b, c, d, rfl⟩
 simp at hx
 unfold chkBox Chk.cells gi gb at hg ⊢
 simp only [Deal.row]
 obtain ⟨dk, db, dO, dw, dc⟩ := d
 simp only at hb0 hb1 hc0 hc1 i1 i2 hle ⊢
 have hcase : db = 0 ∨ db = 1 ∨ db = 2 ∨ db = 3 := by omega
 rcases hcase with rfl | rfl | rfl | rfl
 ·simp at hle
  have hw2 := w64 (x := b0 - dc) (by omega) (by omega)
  have hn : ¬ b0 < dc := by omega
  simp [hne, hl, hg, hn, I, i1, i2, hw2, gleave_free]
 ·simp at hle
  have hw2 := w64 (x := b1 - dc) (by omega) (by omega)
  have hn : ¬ b1 < dc := by omega
  simp [hne, hl, hg, hn, I, i1, i2, hw2, gleave_free]
 ·simp at hle
  have hw2 := w64 (x := b2 - dc) (by omega) (by omega)
  have hn : ¬ b2 < dc := by omega
  simp [hne, hl, hg, hn, I, i1, i2, hw2, gleave_free]
 ·simp at hle
  have hw2 := w64 (x := b3 - dc) (by omega) (by omega)
  have hn : ¬ b3 < dc := by omega
  simp [hne, hl, hg, hn, I, i1, i2, hw2, gleave_free]
theorem pass_ok (hl : nm.1 < H.length) (hg : H.get nm = some (chkBox k)) (hb0 : 0 ≤ d.bag) (hb1 : d.bag ≤ 3) (hc0 : 1 ≤ d.count) (hc1 : d.count ≤ 12) (ht : k.tried.length = 6) (hB : k.bags.length = 4) (hx : ∀ x ∈ k.bags, 0 ≤ x ∧ x ≤ 1000)
  (hle : d.count ≤ k.bags.getD d.bag.toNat 0) (hn0 : 0 ≤ k.censers) (hn : k.censers + d.count ≤ 9) :
  gcall KC (geval KC) 132 [.bptr nm 0, .pure (.agg d.row)] c H = some (.pure (.int .i64 0), H.set nm (chkBox { k with bags := k.bags.set d.bag.toNat (k.bags.getD d.bag.toNat 0 - d.count), censers := k.censers + d.count })) := by
 refine WPv_eq (call_enter KC needT Try.func132 rfl rfl good132 rfl rfl rfl (by simp) (by omega) ?_)
 have hne : ¬ nm.1 = H.length := by omega
 have A := fun c (F : Fr) => aside_ok (d := d) (k := k) (c := c) (H := F :: H) (nm := nm) (by simp; omega) (by simpa [hne] using hg) hb0 hb1 hc0 hc1 ht hB hx hle
 have M := fun c (F : Fr) (b : Blk) => more_ok (k := { k with bags := k.bags.set d.bag.toNat (k.bags.getD d.bag.toNat 0 - d.count) }) (n := d.count) (c := c) (H := F :: H.set nm (chkBox { k with bags := k.bags.set d.bag.toNat (k.bags.getD d.bag.toNat 0 - d.count) })) (nm := nm) (by simp [Heap.length_set]; omega) (by simp [hne, Heap.get_set _ hl]) (by omega) hn0 hn
 simp only [Deal.row] at A M ⊢
 simp [hne, Heap.length_set] at A M
 simp [hne, hl, hg, A, M, Heap.set_set, gleave_free]
theorem place_ok (hl : nm.1 < H.length) (hg : H.get nm = some (chkBox k)) (h0 : 0 ≤ d.wood) (h1 : d.wood < k.woods) (h2 : k.woods ≤ 6) (hn0 : 0 ≤ k.censers) (hn : k.censers + 1 ≤ 9) :
  gcall KC (geval KC) 133 [.bptr nm 0, .pure (.agg d.row)] c H = some (.pure (.int .i64 0), H.set nm (chkBox { k with censers := k.censers + 1 })) := by
 refine WPv_eq (call_enter KC needT Try.func133 rfl rfl good133 rfl rfl rfl (by simp) (by omega) ?_)
 have hne : ¬ nm.1 = H.length := by omega
 have W := fun c (F : Fr) => wood_ok (d := d) (k := k) (c := c) (H := F :: H) (nm := nm) (by simp; omega) (by simpa [hne] using hg) h0 h1 h2
 have M := fun c (F : Fr) => more_ok (k := k) (n := 1) (c := c) (H := F :: H) (nm := nm) (by simp; omega) (by simpa [hne] using hg) (by omega) hn0 hn
 simp only [Deal.row] at W ⊢
 simp [hne] at M
 simp [hne, hl, hg, W, M, gleave_free]
end
end
section
open Go.RowKit
theorem tab_ext {K : Ctx} (hK : CtxOk K) {f : FuncId} {l : List (MK × MV)} (hq : mapQ f = some l) {n : Nat} {nm : Nm} {H1 : Heap} (h : gcall K (gexec K n) f [] 0 [[]] = some (.map nm, H1))
  (hg : H1.get nm = some (.map (l.map fun e => (e.1.pv, .pure (.fn e.2))))) : ExtOk K.P f (extTab f) := by
 intro w S μ H H' args v vs he hp hH hvs hrel
 unfold extTab at he
 split at he
 ·rename_i ha
  simp only [Option.some.injEq, Prod.mk.injEq] at he
  obtain ⟨rfl, rfl⟩ := he
  have ha' : args = [] := by simpa using ha
  subst ha'
  have hv : vs = #[] := by simpa using hvs
  subst hv
  obtain ⟨b1, b2⟩ := call_ok K hK (gexec_sound K hK n) h (hrel_bare hH.slt hH.glb) (vs := #[]) (by simp) (fun j hj => by simp at hj)
  refine ⟨b1, CallsIn.mono b2 fun e' w' hd => ?_⟩
  obtain ⟨u, S', μ', rfl, d2, d3, d4, d5⟩ := hd
  have hB : Below w.heap.size w w' := ⟨d4.os, d4.tape, d4.out, d4.size, fun k hk => d4.same k hk (.inr fun nm t h => by cases h)⟩
  cases d2 with
  | map _ b hl hm =>
  obtain ⟨b', ms, clock, g1, g2, g3, g4, g5⟩ := d3.blk _ _ hg _ _ hm
  rw [hm] at g1; simp only [Option.some.injEq] at g1; subst g1
  have hbw : w.heap.size ≤ b := by
   rcases Nat.lt_or_ge b w.heap.size with h' | h'
   ·obtain ⟨nm', t', h''⟩ := d4.own _ _ _ hm h'; cases h''
   ·exact h'
  refine done_quiet hH hB (S' := fun x => S' x ∨ x = b) (fun x hx => .inl (d4.sub x hx)) (fun x hx hs => ?_) (fun x hs => ?_) (.fmap f b clock ms l (.inr rfl) hq g3 ⟨by simpa using g4, fun j hj => ?_⟩)
  ·rcases hs with hs | rfl
   ·rcases d4.snew x hs hx with h | ⟨nm, t, h⟩
    ·exact h
    ·cases h
   ·omega
  ·rcases hs with hs | rfl
   ·exact d3.slt x hs
   ·exact d3.lt _ _ _ hm
  ·obtain ⟨m, m1, m2, m3⟩ := g5 j (by simpa using hj)
   simp only [List.getElem_map] at m2 m3
   have m4 := m3.pv
   refine ⟨m, m1, ?_, ?_⟩
   ·generalize m.val = mv at m4 ⊢
    cases m4; rfl
   ·cases hk : l[j].1 with
    | int k z =>
     rw [hk] at m2
     have : PRep w' S' m.key (.int k z) := m2
     generalize m.key = mk at this ⊢
     cases this; rfl
    | str s =>
     rw [hk] at m2
     have : PRep w' S' m.key (.str s) := m2
     generalize m.key = mk at this ⊢
     cases this with | str q => exact ⟨q, rfl, rfl⟩
 ·cases he
end
section
variable {c : Nat} {H : Heap}
def wfD (d : Deal) : Prop :=
 (d.kind = 1 ∧ d.bag = 0 ∧ d.other = 0 ∧ d.count = 0) ∨ (d.kind = 2 ∧ d.other = 0) ∨ (d.kind = 3 ∧ d.wood = 0 ∧ d.count = 0) ∨ (d.kind = 4 ∧ d.other = 0 ∧ d.wood = 0) ∨ (d.kind = 5 ∧ d.other = 0 ∧ d.wood = 0) ∨ (d.kind = 6 ∧ d.bag = 0 ∧ d.other = 0 ∧ d.count = 0)
theorem formed_ok {d : Deal} (h : wfD d) (hH : 0 < H.length) : gcall KC (geval KC) 93 [.pure (.agg d.row)] c H = some (.pure (.bool true), H) := by
 refine WPv_eq (call_enter KC needT Try.func93 rfl rfl good93 rfl rfl rfl (by simp) hH ?_)
 obtain ⟨dk, db, dO, dw, dc⟩ := d
 unfold wfD at h
 simp only [Deal.row] at h ⊢
 rcases h with ⟨rfl, rfl, rfl, rfl⟩ | ⟨rfl, rfl⟩ | ⟨rfl, rfl, rfl⟩ | ⟨rfl, rfl, rfl⟩ | ⟨rfl, rfl, rfl⟩ | ⟨rfl, rfl, rfl, rfl⟩
 all_goals simp [gleave_free, eqRow]
def brow8 (b : UInt8) : List PV := [.int .u8 b.toNat]
def nameB (s : List UInt8) : Prop := (∀ b ∈ s, 97 ≤ b.toNat ∧ b.toNat ≤ 122) ∧ 1 ≤ s.length ∧ s.length ≤ 8
theorem named_loop (s : List UInt8) (hs : nameB s) (Q : GX → GSt → Prop) (hH : 0 < H.length) : ∀ (k i : Nat), i + k = s.length →
  (Q (.exit 0) ⟨[(0, .pure (.str s)), (2, gdead)], [] :: H, 22⟩) →
  WPL KC needT 91 (lp Try.f91 0) [0, 6, 7, 8] [0, 2] Q [(0, .pure (.str s)), (6, .pure (.slice (s.map brow8))), (7, .pure (.int .i64 s.length)), (8, .pure (.int .i64 i))] ([] :: H) 22 := by
 intro k
 induction k with
 | zero =>
  intro i hi h1
  have hia : ¬ i < s.length := by omega
  apply WPL_step
  conv => arg 4; whnf
  simp [hia, hH]
  exact h1
 | succ k ih =>
  intro i hi h1
  have hia : i < s.length := by omega
  have hl8 := hs.2.2
  have hw := w64 (x := (i : Int) + 1) (by omega) (by omega)
  have ih' := ih (i + 1) (by omega) h1
  have hb := hs.1 s[i] (List.getElem_mem hia)
  have h2 : ¬ ((s[i].toNat : Nat) : Int) < 97 := by omega
  have h3 : ¬ (122 : Int) < ((s[i].toNat : Nat) : Int) := by omega
  apply WPL_step
  conv => arg 4; whnf
  simp [hia, hH, brow8, hw, h2, h3]
  simpa [brow8] using ih'
theorem named_ok {s : List UInt8} (hs : nameB s) (hH : 0 < H.length) : gcall KC (geval KC) 91 [.pure (.str s)] c H = some (.pure (.bool true), H) := by
 refine WPv_eq (call_enter KC needT Try.func91 rfl rfl good91 rfl rfl rfl (by simp) hH ?_)
 have h8 : Try.prog.underlying 5 = some (.int .u8) := by kernel_rfl
 have hcv := cvV_of (P := Try.prog) (e := 5) (l := s) h8
 have L := fun Q hq => named_loop s hs Q hH s.length 0 (by omega) hq
 have I := fun c (G : Heap) (hG : 0 < G.length) => in_ok (c := c) (H := G) (x := s.length) (lo := 1) (hi := 8) hG
 have hb : inB s.length 1 8 = true := by rw [inB_iff]; have := hs.2; omega
 rw [hb] at I
 simp [brow8] at L
 simp [hcv]
 refine L _ ?_
 simp [I, gleave_free]
end
section
variable {c : Nat} {H : Heap}
structure WoodsOk (ws : List Wood) : Prop where
 ne : 1 ≤ ws.length
 le : ws.length ≤ 6
 nm : ∀ x ∈ ws, nameB x.name
 fam : ∀ x ∈ ws, 0 ≤ x.fam ∧ x.fam ≤ 9
 dis : ∀ i j, (hi : i < ws.length) → (hj : j < i) → ws[j].name ≠ ws[i].name
def stepC (k : Chk) (d : Deal) : Chk :=
 if d.kind = 1 then { k with tried := k.tried.set d.wood.toNat true }
 else if d.kind = 2 then { k with mixed := k.mixed + d.count, bags := k.bags.set d.bag.toNat (k.bags.getD d.bag.toNat 0 + d.count) }
 else if d.kind = 3 then { k with bags := (k.bags.set d.other.toNat (k.bags.getD d.other.toNat 0 + k.bags.getD d.bag.toNat 0)).set d.bag.toNat 0 }
 else if d.kind = 4 then { k with bags := k.bags.set d.bag.toNat (k.bags.getD d.bag.toNat 0 - d.count) }
 else if d.kind = 5 then { k with bags := k.bags.set d.bag.toNat (k.bags.getD d.bag.toNat 0 - d.count), censers := k.censers + d.count }
 else { k with censers := k.censers + 1 }
structure KOk (k : Chk) : Prop where
 w0 : 1 ≤ k.woods
 w6 : k.woods ≤ 6
 m0 : 0 ≤ k.mixed
 m12 : k.mixed ≤ 12
 c0 : 0 ≤ k.censers
 c9 : k.censers ≤ 9
 t6 : k.tried.length = 6
 b4 : k.bags.length = 4
 bx : ∀ x ∈ k.bags, 0 ≤ x
 sum : k.bags.sum ≤ k.mixed
def okD (k : Chk) (d : Deal) : Prop :=
 (d.kind = 1 ∧ 0 ≤ d.wood ∧ d.wood < k.woods ∧ k.tried.getD d.wood.toNat false = false) ∨
 (d.kind = 2 ∧ 0 ≤ d.wood ∧ d.wood < k.woods ∧ 0 ≤ d.bag ∧ d.bag ≤ 3 ∧ 1 ≤ d.count ∧ d.count ≤ 12 ∧ k.mixed + d.count ≤ 12) ∨
 (d.kind = 3 ∧ 0 ≤ d.bag ∧ d.bag ≤ 3 ∧ 0 ≤ d.other ∧ d.other ≤ 3 ∧ d.bag ≠ d.other) ∨
 (d.kind = 4 ∧ 0 ≤ d.bag ∧ d.bag ≤ 3 ∧ 1 ≤ d.count ∧ d.count ≤ 12 ∧ d.count ≤ k.bags.getD d.bag.toNat 0) ∨
 (d.kind = 5 ∧ 0 ≤ d.bag ∧ d.bag ≤ 3 ∧ 1 ≤ d.count ∧ d.count ≤ 12 ∧ d.count ≤ k.bags.getD d.bag.toNat 0 ∧ k.censers + d.count ≤ 9) ∨
 (d.kind = 6 ∧ 0 ≤ d.wood ∧ d.wood < k.woods ∧ k.censers + 1 ≤ 9)
def okAll : Chk → List Deal → Prop
 | _, [] => True
 | k, d :: r => wfD d ∧ okD k d ∧ okAll (stepC k d) r
theorem bags4 {b : List Int} (h : b.length = 4) : ∃ b0 b1 b2 b3, b = [b0, b1, b2, b3] := by
 match b, h with
 | [a, b, c, d], _ => exact ⟨a, b, c, d, rfl⟩
theorem KOk.small {k : Chk} (h : KOk k) : ∀ x ∈ k.bags, 0 ≤ x ∧ x ≤ 1000 := by
 obtain ⟨b0, b1, b2, b3, e⟩ := bags4 h.b4
 have h1 := h.bx; have h2 := h.sum; have h3 := h.m12
 rw [e] at h1 h2 ⊢
 simp at h1 h2 ⊢
 omega
theorem KOk.step {k : Chk} {d : Deal} (h : KOk k) (ho : okD k d) : KOk (stepC k d) := by
 obtain ⟨b0, b1, b2, b3, e⟩ := bags4 h.b4
 obtain ⟨g1, g2, g3, g4, g5, g6, g7, g8, g9, g10⟩ := h
 obtain ⟨kw, km, kc, kt, kb⟩ := k
 obtain ⟨dk, db, dO, dw, dc⟩ := d
 simp only at e g1 g2 g3 g4 g5 g6 g7 g8 g9 g10
 subst e
 simp at g9 g10
 unfold okD at ho
 simp only at ho
 have go : ∀ {c' : Int} {m' : Int} {t' : List Bool} {x0 x1 x2 x3 : Int}, 0 ≤ m' → m' ≤ 12 → 0 ≤ c' → c' ≤ 9 → t'.length = 6 → 0 ≤ x0 → 0 ≤ x1 → 0 ≤ x2 → 0 ≤ x3 → x0 + (x1 + (x2 + x3)) ≤ m' → KOk ⟨kw, m', c', t', [x0, x1, x2, x3]⟩ :=
  fun a1 a2 a3 a4 a5 a6 a7 a8 a9 a10 => ⟨g1, g2, a1, a2, a3, a4, a5, rfl, by simp; omega, by simp; omega⟩
 rcases ho with ⟨rfl, h1, h2, h3⟩ | ⟨rfl, h1, h2, h3, h4, h5, h6, h7⟩ | ⟨rfl, h1, h2, h3, h4, h5⟩ | ⟨rfl, h1, h2, h3, h4, h5⟩ | ⟨rfl, h1, h2, h3, h4, h5, h6⟩ | ⟨rfl, h1, h2, h3⟩
 ·simp only [stepC, if_true]
  exact go g3 g4 g5 g6 (by simpa using g7) (by omega) (by omega) (by omega) (by omega) (by omega)
 ·have hcase : db = 0 ∨ db = 1 ∨ db = 2 ∨ db = 3 := by omega
  rcases hcase with rfl | rfl | rfl | rfl <;> simp [stepC] <;> exact go (by omega) (by omega) g5 g6 g7 (by omega) (by omega) (by omega) (by omega) (by omega)
 ·have hcase : db = 0 ∨ db = 1 ∨ db = 2 ∨ db = 3 := by omega
  have hcase2 : dO = 0 ∨ dO = 1 ∨ dO = 2 ∨ dO = 3 := by omega
  rcases hcase with rfl | rfl | rfl | rfl <;> rcases hcase2 with rfl | rfl | rfl | rfl <;> first | exact absurd rfl h5 | (simp [stepC]; exact go g3 g4 g5 g6 g7 (by omega) (by omega) (by omega) (by omega) (by omega))
 ·have hcase : db = 0 ∨ db = 1 ∨ db = 2 ∨ db = 3 := by omega
  rcases hcase with rfl | rfl | rfl | rfl <;> simp at h5 <;> simp [stepC] <;> exact go g3 g4 g5 g6 g7 (by omega) (by omega) (by omega) (by omega) (by omega)
 ·have hcase : db = 0 ∨ db = 1 ∨ db = 2 ∨ db = 3 := by omega
  rcases hcase with rfl | rfl | rfl | rfl <;> simp at h5 <;> simp [stepC] <;> exact go g3 g4 (by omega) (by omega) g7 (by omega) (by omega) (by omega) (by omega) (by omega)
 ·simp [stepC]
  exact go g3 g4 (by omega) (by omega) g7 (by omega) (by omega) (by omega) (by omega) (by omega)
end
section
variable {c : Nat} {H : Heap}
theorem wpairs_loop (ws : List Wood) (hw : WoodsOk ws) (i : Nat) (hi : i < ws.length) (F1 : Fr) (Q : GX → GSt → Prop) (hH : 0 < H.length) : ∀ (k j : Nat), j + k = i →
  (Q (.exit 3) ⟨[(1, .bptr (H.length, 1) 0), (2, gdead), (4, .bptr (H.length + 1, 4) 0), (25, .pure (.slice (ws.map Wood.row))), (26, .pure (.int .i64 ws.length)), (27, .pure (.int .i64 i))], [(4, .box [.pure (.str ws[i].name), .pure (.int .i64 ws[i].fam)])] :: F1 :: H, 100⟩) →
  WPL KC needT 57 (lp Try.f57 1) [1, 4, 25, 26, 27, 39, 40, 41] [1, 2, 4, 25, 26, 27] Q [(1, .bptr (H.length, 1) 0), (4, .bptr (H.length + 1, 4) 0), (25, .pure (.slice (ws.map Wood.row))), (26, .pure (.int .i64 ws.length)), (27, .pure (.int .i64 i)),
   (39, .pure (.slice ((ws.take i).map Wood.row))), (40, .pure (.int .i64 i)), (41, .pure (.int .i64 j))] ([(4, .box [.pure (.str ws[i].name), .pure (.int .i64 ws[i].fam)])] :: F1 :: H) 100 := by
 intro k
 induction k with
 | zero =>
  intro j hj h1
  have hia : ¬ j < i := by omega
  apply WPL_step
  conv => arg 4; whnf
  simp [hia, hH]
  exact h1
 | succ k ih =>
  intro j hj h1
  have hia : j < i := by omega
  have hjw : j < ws.length := by omega
  have hl6 := hw.le
  have hwr := w64 (x := (j : Int) + 1) (by omega) (by omega)
  have ih' := ih (j + 1) (by omega) h1
  have hd := hw.dis i j hi hia
  have hgs : gstr BinOp.eql ws[j].name ws[i].name = some (.bool false) := by simp [gstr, hd]
  have hlen : j < min i ws.length := by omega
  apply WPL_step
  conv => arg 4; whnf
  simp [hia, hjw, hH, Wood.row, hwr, hgs, hlen]
  simpa [Wood.row] using ih'
theorem woods_loop (ws : List Wood) (hw : WoodsOk ws) (F1 : Fr) (G : GV) (hF : F1.get 1 = some (.box [.pure (.slice (ws.map Wood.row)), G])) (Q : GX → GSt → Prop) (hH : 0 < H.length) : ∀ (k i : Nat), i + k = ws.length →
  (Q (.exit 1) ⟨[(1, .bptr (H.length, 1) 0), (2, gdead)], F1 :: H, 100⟩) →
  WPL KC needT 57 (lp Try.f57 0) [1, 25, 26, 27] [1, 2] Q [(1, .bptr (H.length, 1) 0), (25, .pure (.slice (ws.map Wood.row))), (26, .pure (.int .i64 ws.length)), (27, .pure (.int .i64 i))] (F1 :: H) 100 := by
 intro k
 induction k with
 | zero =>
  intro i hi h1
  have hia : ¬ i < ws.length := by omega
  apply WPL_step
  conv => arg 4; whnf
  simp [hia, hH]
  exact h1
 | succ k ih =>
  intro i hi h1
  have hia : i < ws.length := by omega
  have hl6 := hw.le
  have hwr := w64 (x := (i : Int) + 1) (by omega) (by omega)
  have ih' := ih (i + 1) (by omega) h1
  have N := fun c (G : Heap) (hG : 0 < G.length) => named_ok (c := c) (H := G) (hw.nm ws[i] (List.getElem_mem hia)) hG
  have I := fun c (G : Heap) (hG : 0 < G.length) => in_ok (c := c) (H := G) (x := ws[i].fam) (lo := 0) (hi := 9) hG
  have hb : inB ws[i].fam 0 9 = true := by rw [inB_iff]; have := hw.fam ws[i] (List.getElem_mem hia); omega
  rw [hb] at I
  have P := fun Q hq => wpairs_loop ws hw i hia F1 Q hH i 0 (by omega) hq
  have hlt : ¬ ((i : Int) < 0) := by omega
  have hle : i ≤ ws.length := by omega
  apply WPL_step
  conv => arg 4; whnf
  simp [hia, hH, Wood.row, hwr, N, hF, hlt, hle]
  simp [Wood.row] at P
  refine P _ ?_
  simp [I, hwr, Wood.row]
  simpa [Wood.row] using ih'
end
section
variable {c : Nat} {H : Heap}
def fnD (d : Deal) : Nat := if d.kind = 1 then 128 else if d.kind = 2 then 129 else if d.kind = 3 then 130 else if d.kind = 4 then 131 else if d.kind = 5 then 132 else 133
theorem method_ok {nm : Nm} {k : Chk} {d : Deal} (hk : KOk k) (ho : okD k d) (hl : nm.1 < H.length) (hg : H.get nm = some (chkBox k)) :
  gcall KC (geval KC) (fnD d) [.bptr nm 0, .pure (.agg d.row)] c H = some (.pure (.int .i64 0), H.set nm (chkBox (stepC k d))) := by
 have hs := hk.small
 have h6 := hk.w6
 rcases ho with ⟨e, h1, h2, h3⟩ | ⟨e, h1, h2, h3, h4, h5, h6, h7⟩ | ⟨e, h1, h2, h3, h4, h5⟩ | ⟨e, h1, h2, h3, h4, h5⟩ | ⟨e, h1, h2, h3, h4, h5, h6⟩ | ⟨e, h1, h2, h3⟩
 ·simp only [fnD, stepC, e]
  exact trial_ok hl hg h1 h2 h6 hk.t6 hk.b4 h3
 ·simp only [fnD, stepC, e]
  exact mix_ok hl hg h1 h2 hk.w6 h3 h4 h5 h6 hk.m0 h7 hk.t6 hk.b4 hs
 ·simp only [fnD, stepC, e]
  exact pour_ok hl hg h1 h2 h3 h4 h5 hk.t6 hk.b4 hs
 ·simp only [fnD, stepC, e]
  exact aside_ok hl hg h1 h2 h3 h4 hk.t6 hk.b4 hs h5
 ·simp only [fnD, stepC, e]
  exact pass_ok hl hg h1 h2 h3 h4 hk.t6 hk.b4 hs h5 hk.c0 h6
 ·simp only [fnD, stepC, e]
  exact place_ok hl hg h1 h2 h6 hk.c0 h3
def tabM : List (PV × GV) := [(.int .i64 1, .pure (.fn 128)), (.int .i64 2, .pure (.fn 129)), (.int .i64 3, .pure (.fn 130)), (.int .i64 4, .pure (.fn 131)), (.int .i64 5, .pure (.fn 132)), (.int .i64 6, .pure (.fn 133))]
@[simp] theorem mapOf_checks {H : Heap} : mapOf H (.pure (.fmap 92)) = some tabM := .trans rfl rfl
theorem find_deal {k : Chk} {d : Deal} (ho : okD k d) : ∃ i, findEntry (.int .i64 d.kind) tabM 0 = some (some (i, .pure (.fn (fnD d)))) := by
 rcases ho with ⟨e, _⟩ | ⟨e, _⟩ | ⟨e, _⟩ | ⟨e, _⟩ | ⟨e, _⟩ | ⟨e, _⟩
 ·exact ⟨0, by simp [e, fnD]; rfl⟩
 ·exact ⟨1, by simp [e, fnD]; rfl⟩
 ·exact ⟨2, by simp [e, fnD]; rfl⟩
 ·exact ⟨3, by simp [e, fnD]; rfl⟩
 ·exact ⟨4, by simp [e, fnD]; rfl⟩
 ·exact ⟨5, by simp [e, fnD]; rfl⟩
def runC (k : Chk) (ds : List Deal) : Chk := ds.foldl stepC k
theorem KOk.run : ∀ {ds : List Deal} {k : Chk}, KOk k → okAll k ds → KOk (runC k ds)
 | [], _, h, _ => h
 | d :: r, k, h, ho => by
  have := KOk.run (ds := r) (k := stepC k d) (h.step ho.2.1) ho.2.2
  exact this
theorem key3 (n : Int) : keyFitsK KC 3 (.int .i64 n) = true := by
 have h : KC.P.underlying 3 = some (.int .i64) := by rw [KC_P]; kernel_rfl
 unfold keyFitsK keyFits
 simp only [h]
 simp
theorem deals_loop (ds : List Deal) (hds : ds.length ≤ 24) (g : Blk) (Q : GX → GSt → Prop) (hH : 0 < H.length) : ∀ (n i : Nat) (k : Chk), i + n = ds.length → KOk k → okAll k (ds.drop i) →
  (Q (.exit 5) ⟨[(2, gdead), (7, .bptr (H.length, 64) 0)], [(1, g), (64, chkBox (runC k (ds.drop i)))] :: H, 100⟩) →
  WPL KC needT 57 (lp Try.f57 2) [7, 8, 67, 68, 69] [2, 7] Q [(7, .bptr (H.length, 64) 0), (8, .pure (.fmap 92)), (67, .pure (.slice (ds.map Deal.row))), (68, .pure (.int .i64 ds.length)), (69, .pure (.int .i64 i))]
   ([(1, g), (64, chkBox k)] :: H) 100 := by
 intro n
 induction n with
 | zero =>
  intro i k hi hk ho h1
  have hia : ¬ i < ds.length := by omega
  rw [List.drop_eq_nil_of_le (by omega)] at h1
  simp only [runC, List.foldl_nil] at h1
  apply WPL_step
  conv => arg 4; whnf
  simp [hia, hH]
  exact h1
 | succ n ih =>
  intro i k hi hk ho h1
  have hia : i < ds.length := by omega
  rw [List.drop_eq_getElem_cons hia] at ho h1
  obtain ⟨hw, hd, ho2⟩ := ho
  have hwr := w64 (x := (i : Int) + 1) (by omega) (by omega)
  have ih' := ih (i + 1) (stepC k ds[i]) (by omega) (hk.step hd) ho2 (by simpa only [runC, List.foldl_cons] using h1)
  clear h1 ih
  have Fm := fun c (G : Heap) (hG : 0 < G.length) => formed_ok (c := c) (H := G) hw hG
  obtain ⟨q, hq⟩ := find_deal hd
  have M := fun c (F : Fr) (e : F = [(10, .box (ds[i].row.map .pure))]) => method_ok (d := ds[i]) (k := k) (c := c) (H := F :: [(1, g), (64, chkBox k)] :: H) (nm := (H.length, 64)) hk hd (by simp; omega) (by simp)
  generalize fnD ds[i] = fd at *
  generalize hdd : ds[i] = d at *
  obtain ⟨dk, db, dO, dw, dc⟩ := d
  have hrow : (ds.map Deal.row)[i]? = some [.int .i64 dk, .int .i64 db, .int .i64 dO, .int .i64 dw, .int .i64 dc] := by simp [hia, hdd, Deal.row]
  simp only [Deal.row] at M Fm hq
  simp at M
  apply WPL_step
  conv => arg 4; whnf
  simp [hia, hH, hwr, hdd, Deal.row, Fm, hq, M, key3]
  simpa [Deal.row] using ih'
end
section
variable {c : Nat} {H : Heap}
def k0 (n : Nat) : Chk := ⟨n, 0, 0, [false, false, false, false, false, false], [0, 0, 0, 0]⟩
theorem k0_ok {n : Nat} (h : 1 ≤ n) (h' : n ≤ 6) : KOk (k0 n) := ⟨by simp [k0]; omega, by simp [k0]; omega, by simp [k0], by simp [k0], by simp [k0], by simp [k0], rfl, rfl, by simp [k0], by simp [k0]⟩
structure GOk (ws : List Wood) (ds : List Deal) : Prop where
 w : WoodsOk ws
 l : ds.length ≤ 24
 d : okAll (k0 ws.length) ds
 c : 1 ≤ (runC (k0 ws.length) ds).censers
theorem check_ok {ws : List Wood} {ds : List Deal} (h : GOk ws ds) (hH : 0 < H.length) :
  gcall KC (geval KC) 57 [.pure (.agg [.slice (ws.map Wood.row), .slice (ds.map Deal.row)])] c H = some (.pure (.int .i64 0), H) := by
 refine WPv_eq (call_enter KC needT Try.func57 rfl rfl good57 rfl rfl rfl (by simp) hH ?_)
 have h1 := h.w.ne
 have h6 := h.w.le
 have h24 := h.l
 have g0 : ¬ ((ws.length : Int) = 0) := by omega
 have g6 : ¬ ((6 : Int) < ws.length) := by omega
 have g24 : ¬ ((24 : Int) < ds.length) := by omega
 have L1 := fun Q hq => woods_loop ws h.w [(1, .box [.pure (.slice (ws.map Wood.row)), .pure (.slice (ds.map Deal.row))])] (.pure (.slice (ds.map Deal.row))) (by simp) Q hH ws.length 0 (by omega) hq
 have L2 := fun Q hq => deals_loop ds h24 (.box [.pure (.slice (ws.map Wood.row)), .pure (.slice (ds.map Deal.row))]) Q hH ds.length 0 (k0 ws.length) (by omega) (k0_ok h1 h6) h.d hq
 have hc := h.c
 have g9 : ¬ (runC (k0 ws.length) ds).censers = 0 := by omega
 have hbox : chkBox (k0 ws.length) = .box [.pure (.int .i64 ws.length), .pure (.int .i64 0), .pure (.int .i64 0), .pure (.bool false), .pure (.bool false), .pure (.bool false), .pure (.bool false), .pure (.bool false), .pure (.bool false), .pure (.int .i64 0), .pure (.int .i64 0), .pure (.int .i64 0), .pure (.int .i64 0)] := rfl
 rw [hbox] at L2
 simp at L1 L2
 generalize hr : runC (k0 ws.length) ds = r at *
 have hne : ws ≠ [] := fun e => by rw [e] at h1; simp at h1
 simp [g0, g6, hne]
 refine L1 _ ?_
 simp [g24, L2]
 refine L2 _ ?_
 simp [chkBox, Chk.cells, gi, g9, gleave_free]
end
section
variable {c : Nat} {H : Heap}
structure BOk (B : List Int) : Prop where
 len : B.length = 24
 rng : ∀ x ∈ B, 0 ≤ x ∧ x ≤ 1000
def bagL (B : List Int) (b : Nat) : List Int := (B.drop (b * 6)).take 6
def sizeB (B : List Int) (b : Nat) : Int := (bagL B b).sum
theorem sum_rng : ∀ {L : List Int}, (∀ x ∈ L, 0 ≤ x ∧ x ≤ 1000) → 0 ≤ L.sum ∧ L.sum ≤ 1000 * L.length
 | [], _ => by simp
 | x :: L, h => by
  have h1 := h x (by simp)
  have h2 := sum_rng (L := L) fun y hy => h y (by simp [hy])
  simp
  omega
theorem BOk.get {B : List Int} (h : BOk B) {o : Nat} (ho : o < 24) : ∃ x, B[o]? = some x ∧ 0 ≤ x ∧ x ≤ 1000 := by
 have hl := h.len
 have hlt : o < B.length := by omega
 exact ⟨B[o], List.getElem?_eq_getElem hlt, h.rng _ (List.getElem_mem hlt)⟩
theorem bagL_get {B : List Int} {b i : Nat} (hi : i < 6) : (bagL B b)[i]? = B[b * 6 + i]? := by
 unfold bagL
 rw [List.getElem?_take, if_pos hi, List.getElem?_drop]
theorem BOk.bag {B : List Int} (h : BOk B) (b : Nat) : ∀ x ∈ bagL B b, 0 ≤ x ∧ x ≤ 1000 := fun x hx => h.rng x (List.mem_of_mem_drop (List.mem_of_mem_take hx))
theorem BOk.blen {B : List Int} (h : BOk B) {b : Nat} (hb : b < 4) : (bagL B b).length = 6 := by
 have := h.len
 unfold bagL; simp; omega
theorem take_sum {L : List Int} {i : Nat} {x : Int} (h : L[i]? = some x) : (L.take (i + 1)).sum = (L.take i).sum + x := by
 rw [List.take_add_one, h]; simp
theorem size_loop (B : List Int) (hB : BOk B) (b : Nat) (hb : b < 4) (Q : GX → GSt → Prop) (hH : 0 < H.length) : ∀ (k i : Nat), i + k = 6 →
  (Q (.exit 0) ⟨[(5, .pure (.int .i64 (sizeB B b)))], [(2, .box (B.map gi))] :: H, 19⟩) →
  WPL KC needT 96 (lp Try.f96 0) [1, 2, 5, 6] [5] Q [(1, .pure (.int .i64 b)), (2, .bptr (H.length, 2) 0), (5, .pure (.int .i64 ((bagL B b).take i).sum)), (6, .pure (.int .i64 i))]
   ([(2, .box (B.map gi))] :: H) 19 := by
 intro k
 induction k with
 | zero =>
  intro i hi h1
  have : i = 6 := by omega
  subst this
  have e : (bagL B b).take 6 = bagL B b := List.take_of_length_le (by rw [hB.blen hb]; omega)
  rw [e]
  apply WPL_step
  conv => arg 4; whnf
  simp [hH]
  exact h1
 | succ k ih =>
  intro i hi h1
  have hi6 : i < 6 := by omega
  obtain ⟨x, hx, hx0, hx1⟩ := hB.get (o := b * 6 + i) (by omega)
  have hs := take_sum (L := bagL B b) (i := i) (x := x) (by rw [bagL_get hi6]; exact hx)
  have hr := sum_rng (L := (bagL B b).take i) fun y hy => hB.bag b y (List.mem_of_mem_take hy)
  have hl : ((bagL B b).take i).length ≤ 6 := by simp; omega
  have hw := w64 (x := (i : Int) + 1) (by omega) (by omega)
  have hw2 := w64 (x := ((bagL B b).take i).sum + x) (by omega) (by omega)
  have ih' := ih (i + 1) (by omega) h1
  rw [hs] at ih'
  generalize ((bagL B b).take i).sum = sm at *
  have hi' : (i : Int) < 6 := by omega
  have hi2 : ¬ (6 : Int) ≤ i := by omega
  have hb' : ¬ (4 : Int) ≤ b := by omega
  apply WPL_step
  conv => arg 4; whnf
  simp [hi', hi2, hb', hi6, hb, hH, hw, hw2, hx, gi]
  simpa [gi] using ih'
def bgP (B : List Int) : PV := .agg (B.map fun n => .int .i64 n)
theorem bgP_cells (B : List Int) : B.map gi = (B.map fun n => (PV.int .i64 n)).map GV.pure := by simp [gi, Function.comp_def]
theorem size_ok {B : List Int} (hB : BOk B) {b : Nat} (hb : b < 4) (hH : 0 < H.length) : gcall KC (geval KC) 96 [.pure (bgP B), .pure (.int .i64 b)] c H = some (.pure (.int .i64 (sizeB B b)), H) := by
 refine WPv_eq (call_enter KC needT Try.func96 rfl rfl good96 rfl rfl rfl (by simp) hH ?_)
 have L := fun Q hq => size_loop B hB b hb Q hH 6 0 (by omega) hq
 rw [bgP_cells] at L
 simp at L
 simp [bgP]
 refine L _ ?_
 simp [gleave_free]
theorem spl {Ps : List PV} {o : Nat} {y : PV} (h : o < Ps.length) : List.take o (Ps.map GV.pure) ++ (GV.pure y :: List.drop (o + 1) (Ps.map GV.pure)) = (Ps.set o y).map GV.pure := by
 rw [List.map_set, List.set_eq_take_append_cons_drop, if_pos (by simpa using h)]
theorem ld24 {Ps : List PV} (h : Ps.length = 24) : ldBox (some true) (some 24) 0 (some (.box (Ps.map GV.pure))) = some (.pure (.agg Ps)) := by
 have : (Ps.map GV.pure).take 24 = Ps.map GV.pure := List.take_of_length_le (by simp [h])
 simp [h, this, mkA]
theorem bg_get {B : List Int} {o : Nat} {x : Int} (h : B[o]? = some x) : (B.map fun n => (PV.int .i64 n))[o]? = some (.int .i64 x) := by simp [h]
theorem without_ok {B : List Int} (hB : BOk B) {b w : Nat} (hb : b < 4) (hw : w < 6) (hH : 0 < H.length) :
  gcall KC (geval KC) 97 [.pure (bgP B), .pure (.int .i64 b), .pure (.int .i64 w)] c H = some (.pure (bgP (B.set (b * 6 + w) (B.getD (b * 6 + w) 0 - 1))), H) := by
 refine WPv_eq (call_enter KC needT Try.func97 rfl rfl good97 rfl rfl rfl (by simp) hH ?_)
 obtain ⟨x, hx, hx0, hx1⟩ := hB.get (o := b * 6 + w) (by omega)
 have hg : B.getD (b * 6 + w) 0 = x := by rw [List.getD_eq_getElem?_getD, hx]; rfl
 have hwr := w64 (x := x - 1) (by omega) (by omega)
 have hb' : ¬ (4 : Int) ≤ b := by omega
 have hw' : ¬ (6 : Int) ≤ w := by omega
 have hl : (B.map fun n => (PV.int .i64 n)).length = 24 := by simp [hB.len]
 have hlt : b * 6 + w + 1 ≤ 24 := by omega
 rw [hg]
 have hx' := bg_get hx
 unfold bgP
 rw [List.map_set]
 generalize (B.map fun n => (PV.int .i64 n)) = Ps at *
 have hs := spl (Ps := Ps) (o := b * 6 + w) (y := .int .i64 (x - 1)) (by omega)
 have hl2 : (Ps.set (b * 6 + w) (.int .i64 (x - 1))).length = 24 := by simp [hl]
 simp [hb', hw', hx', hwr, hl, hlt, hs, -List.map_set, ld24 hl2, gleave_free]
end
section
variable {c : Nat} {H : Heap}
theorem drop_sum {L : List Int} {i : Nat} {x : Int} (h : L[i]? = some x) : (L.drop i).sum = x + (L.drop (i + 1)).sum := by
 obtain ⟨hi, e⟩ := List.getElem?_eq_some_iff.1 h
 rw [List.drop_eq_getElem_cons hi, e]; simp
def fw : List Int → Nat → Nat
 | [], i => i
 | x :: r, i => if 0 < x then i else fw r (i + 1)
def fstW (B : List Int) (b : Nat) : Nat := fw (bagL B b) 0
theorem drop_consG {L : List Int} {i : Nat} {x : Int} (h : L[i]? = some x) : L.drop i = x :: L.drop (i + 1) := by
 obtain ⟨hi, e⟩ := List.getElem?_eq_some_iff.1 h
 rw [List.drop_eq_getElem_cons hi, e]
theorem fw_spec : ∀ {L : List Int} {i : Nat}, (∀ x ∈ L, 0 ≤ x ∧ x ≤ 1000) → 1 ≤ L.sum → i ≤ fw L i ∧ fw L i < i + L.length ∧ ∃ x, L[fw L i - i]? = some x ∧ 0 < x
 | [], i, _, h => by simp at h
 | x :: r, i, h, hs => by
  have h0 := h x (by simp)
  unfold fw
  by_cases g : 0 < x
  ·rw [if_pos g]; simp; exact g
  ·rw [if_neg g]
   have hx : x = 0 := by omega
   subst hx
   obtain ⟨a1, a2, y, a3, a4⟩ := fw_spec (L := r) (i := i + 1) (fun y hy => h y (by simp [hy])) (by simpa using hs)
   refine ⟨by omega, by simp; omega, y, ?_, a4⟩
   rw [show fw r (i + 1) - i = (fw r (i + 1) - (i + 1)) + 1 by omega]
   simpa using a3
theorem fstW_spec {B : List Int} (hB : BOk B) {b : Nat} (hb : b < 4) (hs : 1 ≤ sizeB B b) : fstW B b < 6 ∧ 0 < B.getD (b * 6 + fstW B b) 0 := by
 obtain ⟨a1, a2, x, a3, a4⟩ := fw_spec (L := bagL B b) (i := 0) (hB.bag b) hs
 rw [hB.blen hb] at a2
 unfold fstW
 refine ⟨by omega, ?_⟩
 rw [Nat.sub_zero, bagL_get (by omega)] at a3
 rw [List.getD_eq_getElem?_getD, a3]
 exact a4
theorem wood_loop (B : List Int) (hB : BOk B) (b : Nat) (hb : b < 4) (Q : GX → GSt → Prop) (hH : 0 < H.length) (h1 : Q .ret ⟨[(6, .pure (.int .i64 (fstW B b)))], [(3, .box ((B.map fun n => (PV.int .i64 n)).map GV.pure))] :: H, 27⟩) : ∀ (k i : Nat), i + k = 6 → 1 ≤ ((bagL B b).drop i).sum → fw ((bagL B b).drop i) i = fstW B b →
  WPL KC needT 98 (lp Try.f98 0) [1, 2, 3, 7] [6] Q [(1, .pure (.int .i64 b)), (2, .pure (.int .i64 0)), (3, .bptr (H.length, 3) 0), (7, .pure (.int .i64 i))]
   ([(3, .box ((B.map fun n => (PV.int .i64 n)).map GV.pure))] :: H) 27 := by
 intro k
 induction k with
 | zero =>
  intro i hi hs
  rw [List.drop_eq_nil_of_le (by rw [hB.blen hb]; omega)] at hs
  simp at hs
 | succ k ih =>
  intro i hi hs hf
  have hi6 : i < 6 := by omega
  obtain ⟨x, hx, hx0, hx1⟩ := hB.get (o := b * 6 + i) (by omega)
  have hdc := drop_consG (L := bagL B b) (i := i) (x := x) (by rw [bagL_get hi6]; exact hx)
  rw [hdc] at hf hs
  have hw := w64 (x := (i : Int) + 1) (by omega) (by omega)
  have hi' : (i : Int) < 6 := by omega
  have hi2 : ¬ (6 : Int) ≤ i := by omega
  have hb' : ¬ (4 : Int) ≤ b := by omega
  have ih' := ih (i + 1) (by omega)
  clear ih
  have hx' := bg_get hx
  have w0 : IntKind.i64.wrap 0 = 0 := rfl
  generalize (B.map fun n => (PV.int .i64 n)) = Ps at *
  apply WPL_step
  conv => arg 4; whnf
  by_cases g : 0 < x
  ·rw [fw, if_pos g] at hf
   rw [← hf] at h1
   simp [hi', hi2, hb', hi6, hb, hH, hw, hx', g]
   exact h1
  ·have x0 : x = 0 := by omega
   subst x0
   rw [fw, if_neg (by omega)] at hf
   simp [hi', hi2, hb', hi6, hb, hH, hw, hx', w0]
   simpa using ih' (by simpa using hs) hf
theorem wood0_ok {B : List Int} (hB : BOk B) {b : Nat} (hb : b < 4) (hs : 1 ≤ sizeB B b) (hH : 0 < H.length) :
  gcall KC (geval KC) 98 [.pure (bgP B), .pure (.int .i64 b), .pure (.int .i64 0)] c H = some (.pure (.int .i64 (fstW B b)), H) := by
 refine WPv_eq (call_enter KC needT Try.func98 rfl rfl good98 rfl rfl rfl (by simp) hH ?_)
 have L := fun Q h1 => wood_loop B hB b hb Q hH h1 6 0 (by omega) (by simpa [sizeB] using hs) rfl
 simp [-List.map_map] at L
 simp [bgP, -List.map_map]
 refine L _ ?_
 simp [gleave_free]
def pourB (B : List Int) (b o : Nat) : Nat → List Int
 | 0 => B
 | n + 1 => ((pourB B b o n).set (o * 6 + n) ((pourB B b o n).getD (o * 6 + n) 0 + (pourB B b o n).getD (b * 6 + n) 0)).set (b * 6 + n) 0
def readyB (B : List Int) (d : Deal) : List Int :=
 if d.kind = 2 then B.set (d.bag.toNat * 6 + d.wood.toNat) (B.getD (d.bag.toNat * 6 + d.wood.toNat) 0 + d.count)
 else if d.kind = 3 then pourB B d.bag.toNat d.other.toNat 6 else B
end
section
variable {c : Nat} {H : Heap}
theorem getD_set_ne' {B : List Int} {i j : Nat} {x : Int} (h : i ≠ j) : (B.set i x).getD j 0 = B.getD j 0 := by
 simp [List.getD_eq_getElem?_getD, List.getElem?_set, h]
theorem pourB_len (B : List Int) (b o : Nat) : ∀ n, (pourB B b o n).length = B.length
 | 0 => rfl
 | n + 1 => by simp [pourB, pourB_len B b o n]
theorem pourB_keep (B : List Int) (b o : Nat) : ∀ (n j : Nat), (j < o * 6 ∨ o * 6 + n ≤ j) → (j < b * 6 ∨ b * 6 + n ≤ j) → (pourB B b o n).getD j 0 = B.getD j 0
 | 0, _, _, _ => rfl
 | n + 1, j, h1, h2 => by
  rw [pourB, getD_set_ne' (by omega), getD_set_ne' (by omega)]
  exact pourB_keep B b o n j (by omega) (by omega)
theorem getD_get {B : List Int} {j : Nat} (h : j < B.length) : B[j]? = some (B.getD j 0) := by
 rw [List.getD_eq_getElem?_getD, List.getElem?_eq_getElem h]; rfl
theorem ready_loop (B : List Int) (hB : BOk B) (dk dw dc : Int) (b o : Nat) (hb : b < 4) (ho : o < 4) (hne : b ≠ o) (z : Blk) (Q : GX → GSt → Prop) (hH : 0 < H.length) : ∀ (k n : Nat), n + k = 6 →
  (Q (.exit 1) ⟨[(2, .bptr (H.length, 2) 0), (4, .bptr (H.length, 4) 0)], [(2, .box (((pourB B b o 6).map fun n => (PV.int .i64 n)).map GV.pure)), (3, .box [.pure (.int .i64 dk), .pure (.int .i64 b), .pure (.int .i64 o), .pure (.int .i64 dw), .pure (.int .i64 dc)]), (4, z)] :: H, 56⟩) →
  WPL KC needT 99 (lp Try.f99 0) [2, 3, 4, 5] [2, 4] Q [(2, .bptr (H.length, 2) 0), (3, .bptr (H.length, 3) 0), (4, .bptr (H.length, 4) 0), (5, .pure (.int .i64 n))]
   ([(2, .box (((pourB B b o n).map fun n => (PV.int .i64 n)).map GV.pure)), (3, .box [.pure (.int .i64 dk), .pure (.int .i64 b), .pure (.int .i64 o), .pure (.int .i64 dw), .pure (.int .i64 dc)]), (4, z)] :: H) 56 := by
 intro k
 induction k with
 | zero =>
  intro n hn h1
  have : n = 6 := by omega
  subst this
  apply WPL_step
  conv => arg 4; whnf
  simp [hH, -List.map_map]
  exact h1
 | succ k ih =>
  intro n hn h1
  have hn6 : n < 6 := by omega
  have hl := hB.len
  have hlp := pourB_len B b o n
  obtain ⟨x, hx, hx0, hx1⟩ := hB.get (o := o * 6 + n) (by omega)
  obtain ⟨y, hy, hy0, hy1⟩ := hB.get (o := b * 6 + n) (by omega)
  have gx : (pourB B b o n).getD (o * 6 + n) 0 = x := by rw [pourB_keep B b o n _ (by omega) (by omega), List.getD_eq_getElem?_getD, hx]; rfl
  have gy : (pourB B b o n).getD (b * 6 + n) 0 = y := by rw [pourB_keep B b o n _ (by omega) (by omega), List.getD_eq_getElem?_getD, hy]; rfl
  have hx' := bg_get (B := pourB B b o n) (o := o * 6 + n) (x := x) (by rw [getD_get (by omega), gx])
  have hy' := bg_get (B := pourB B b o n) (o := b * 6 + n) (x := y) (by rw [getD_get (by omega), gy])
  have ih' := ih (n + 1) (by omega) h1
  clear ih h1
  have e : ((pourB B b o (n + 1)).map fun n => (PV.int .i64 n)) = (((pourB B b o n).map fun n => (PV.int .i64 n)).set (o * 6 + n) (.int .i64 (x + y))).set (b * 6 + n) (.int .i64 0) := by rw [pourB, gx, gy, List.map_set, List.map_set]
  rw [e] at ih'
  clear e
  have hlP : ((pourB B b o n).map fun n => (PV.int .i64 n)).length = 24 := by simp [hlp, hl]
  generalize ((pourB B b o n).map fun n => (PV.int .i64 n)) = Ps at *
  have hwr := w64 (x := (n : Int) + 1) (by omega) (by omega)
  have hw2 := w64 (x := x + y) (by omega) (by omega)
  have hn' : (n : Int) < 6 := by omega
  have hn2 : ¬ (6 : Int) ≤ n := by omega
  have hb' : ¬ (4 : Int) ≤ b := by omega
  have ho' : ¬ (4 : Int) ≤ o := by omega
  have s1 := spl (Ps := Ps) (o := o * 6 + n) (y := .int .i64 (x + y)) (by omega)
  have s2 := spl (Ps := Ps.set (o * 6 + n) (.int .i64 (x + y))) (o := b * 6 + n) (y := .int .i64 0) (by simp; omega)
  have l1 : o * 6 + n + 1 ≤ 24 := by omega
  have l2 : b * 6 + n + 1 ≤ 24 := by omega
  apply WPL_step
  conv => arg 4; whnf
  simp [hn', hn2, hb', ho', hn6, hb, ho, hH, hwr, hw2, hx', hy', s1, s2, l1, l2, hlP, -List.map_set, -List.map_map]
  simpa [-List.map_set, -List.map_map] using ih'
structure DR (d : Deal) : Prop where
 b0 : 0 ≤ d.bag
 b3 : d.bag ≤ 3
 o0 : 0 ≤ d.other
 o3 : d.other ≤ 3
 w0 : 0 ≤ d.wood
 w5 : d.wood ≤ 5
 c0 : 0 ≤ d.count
 c12 : d.count ≤ 12
 ne : d.kind = 3 → d.bag ≠ d.other
theorem ready_ok {B : List Int} (hB : BOk B) {d : Deal} (hd : DR d) (hH : 0 < H.length) :
  gcall KC (geval KC) 99 [.pure (bgP B), .pure (.agg d.row)] c H = some (.pure (bgP (readyB B d)), H) := by
 refine WPv_eq (call_enter KC needT Try.func99 rfl rfl good99 rfl rfl rfl (by simp) hH ?_)
 obtain ⟨dk, db, dO, dw, dc⟩ := d
 obtain ⟨h1, h2, h3, h4, h5, h6, h7, h8, h9⟩ := hd
 simp only at h1 h2 h3 h4 h5 h6 h7 h8 h9
 obtain ⟨b, rfl⟩ := Int.eq_ofNat_of_zero_le h1
 obtain ⟨o, rfl⟩ := Int.eq_ofNat_of_zero_le h3
 obtain ⟨w, rfl⟩ := Int.eq_ofNat_of_zero_le h5
 have hb : b < 4 := by omega
 have ho : o < 4 := by omega
 have hw : w < 6 := by omega
 have hb' : ¬ (4 : Int) ≤ b := by omega
 have ho' : ¬ (4 : Int) ≤ o := by omega
 have hw' : ¬ (6 : Int) ≤ w := by omega
 have hl := hB.len
 unfold readyB bgP
 simp only [Deal.row, Int.toNat_natCast]
 by_cases k2 : dk = 2
 ·subst k2
  obtain ⟨x, hx, hx0, hx1⟩ := hB.get (o := b * 6 + w) (by omega)
  have hg : B.getD (b * 6 + w) 0 = x := by rw [List.getD_eq_getElem?_getD, hx]; rfl
  have hx' := bg_get hx
  have hwr := w64 (x := x + dc) (by omega) (by omega)
  rw [if_pos rfl, hg, List.map_set]
  have hlP : (B.map fun n => (PV.int .i64 n)).length = 24 := by simp [hl]
  generalize (B.map fun n => (PV.int .i64 n)) = Ps at *
  have s1 := spl (Ps := Ps) (o := b * 6 + w) (y := .int .i64 (x + dc)) (by omega)
  have l1 : b * 6 + w + 1 ≤ 24 := by omega
  have hl2 : (Ps.set (b * 6 + w) (.int .i64 (x + dc))).length = 24 := by simp [hlP]
  simp [hb', hw', hx', hwr, hlP, l1, s1, ld24 hl2, -List.map_set, gleave_free]
 rw [if_neg k2]
 by_cases k3 : dk = 3
 ·subst k3
  have hne : b ≠ o := fun e => h9 rfl (by rw [e])
  have L := fun z Q h1 => ready_loop B hB 3 w dc b o hb ho hne z Q hH 6 0 (by omega) h1
  rw [if_pos rfl]
  rw [pourB] at L
  have hlP : (B.map fun n => (PV.int .i64 n)).length = 24 := by simp [hl]
  have hl2 : ((pourB B b o 6).map fun n => (PV.int .i64 n)).length = 24 := by simp [pourB_len, hl]
  generalize ((pourB B b o 6).map fun n => (PV.int .i64 n)) = P6 at *
  generalize (B.map fun n => (PV.int .i64 n)) = Ps at *
  simp at L
  simp [hlP]
  refine L _ _ ?_
  simp [ld24 hl2, hl2, gleave_free]
 ·rw [if_neg k3]
  have hlP : (B.map fun n => (PV.int .i64 n)).length = 24 := by simp [hl]
  generalize (B.map fun n => (PV.int .i64 n)) = Ps at *
  simp [k2, k3, ld24 hlP, hlP, gleave_free]
end
section
variable {c : Nat} {H : Heap}
theorem apK_2 {l bytes key es : Nat} {rows : List (List PV)} {r : List PV} {f0 f1 fr : Fr} (hl : H.length = l) (hf : fr.get key = none) (hb : (rows.length + 1) * bytes ≤ 1099511627776) (hk : key < tyBase) :
  apK l key (apS (l, key) es rows) es bytes [r] (f0 :: f1 :: apF key es rows fr :: H) = some (apS (l, key) es (rows ++ [r]), f0 :: f1 :: apF key es (rows ++ [r]) fr :: H) := by
 subst hl
 rw [apK_apS (fun h => by subst h; simp [apF, hf]) (fun h => by simp [apF_self h]) (by simp; omega) hb hk]
 simp [apF]
 split
 ·rfl
 ·rw [Fr.ins_ins]
def drawsB (d : Deal) : Bool := d.kind == 4 || d.kind == 5
def actsD (d : Deal) : List Deal := if drawsB d = true then List.replicate d.count.toNat { d with count := 1 } else [d]
def actsL (ds : List Deal) : List Deal := ds.flatMap actsD
theorem acts_in (g : Blk) (i5 : Nat) (r0 r1 r2 r3 r4 : Int) (Q : GX → GSt → Prop) (hH : 0 < H.length) : ∀ (n : Nat) (rows : List (List PV)), rows.length + n ≤ 100000 →
  (Q (.exit 2) ⟨[(1, .bptr (H.length, 1) 0), (3, apS (H.length, 37) 5 (rows ++ List.replicate n [.int .i64 r0, .int .i64 r1, .int .i64 r2, .int .i64 r3, .int .i64 r4])), (4, .pure (.int .i64 i5))],
   [(5, .box [.pure (.int .i64 r0), .pure (.int .i64 r1), .pure (.int .i64 r2), .pure (.int .i64 r3), .pure (.int .i64 r4)])] :: apF 37 5 (rows ++ List.replicate n [.int .i64 r0, .int .i64 r1, .int .i64 r2, .int .i64 r3, .int .i64 r4]) [(1, g)] :: H, 39⟩) →
  WPL KC needT 94 (lp Try.f94 1) [1, 3, 4, 5, 6] [1, 3, 4] Q [(1, .bptr (H.length, 1) 0), (3, apS (H.length, 37) 5 rows), (4, .pure (.int .i64 i5)), (5, .bptr (H.length + 1, 5) 0), (6, .pure (.int .i64 n))]
   ([(5, .box [.pure (.int .i64 r0), .pure (.int .i64 r1), .pure (.int .i64 r2), .pure (.int .i64 r3), .pure (.int .i64 r4)])] :: apF 37 5 rows [(1, g)] :: H) 39 := by
 intro n
 induction n with
 | zero =>
  intro rows hn h1
  apply WPL_step
  conv => arg 4; whnf
  simp [hH]
  simpa using h1
 | succ n ih =>
  intro rows hn h1
  have hw := w64 (x := (n : Int) + 1 - 1) (by omega) (by omega)
  rw [show (n : Int) + 1 - 1 = n by omega] at hw
  have hp : (0 : Int) < (n : Int) + 1 := by omega
  have ih' := ih (rows ++ [[.int .i64 r0, .int .i64 r1, .int .i64 r2, .int .i64 r3, .int .i64 r4]]) (by simp; omega) (by
   rw [List.append_assoc, List.singleton_append, ← List.replicate_succ]; exact h1)
  have hb : (rows.length + 1) * 40 ≤ 1099511627776 := by omega
  apply WPL_step
  conv => arg 4; whnf
  simp [hp, hH, hw, hb, apK_2]
  exact ih'
theorem actsL_take {ds : List Deal} {i : Nat} (h : i < ds.length) : actsL (ds.take (i + 1)) = actsL (ds.take i) ++ actsD ds[i] := by
 unfold actsL
 rw [List.take_add_one, List.getElem?_eq_getElem h, List.flatMap_append]
 simp
theorem actsL_len : ∀ (ds : List Deal), (∀ d ∈ ds, d.count ≤ 12) → (actsL ds).length ≤ 13 * ds.length
 | [], _ => by simp [actsL]
 | d :: r, h => by
  have h1 := h d (by simp)
  have h2 := actsL_len r fun x hx => h x (by simp [hx])
  unfold actsL at *
  rw [List.flatMap_cons, List.length_append, List.length_cons]
  have : (actsD d).length ≤ 13 := by
   unfold actsD; split
   ·simp; omega
   ·simp
  omega
theorem acts_loop (ds : List Deal) (hds : ds.length ≤ 24) (hc : ∀ d ∈ ds, 0 ≤ d.count ∧ d.count ≤ 12) (w0 : GV) (Q : GX → GSt → Prop) (hH : 0 < H.length) : ∀ (k i : Nat), i + k = ds.length →
  (Q (.exit 0) ⟨[(3, apS (H.length, 37) 5 ((actsL ds).map Deal.row))], apF 37 5 ((actsL ds).map Deal.row) [(1, .box [w0, .pure (.slice (ds.map Deal.row))])] :: H, 39⟩) →
  WPL KC needT 94 (lp Try.f94 0) [1, 3, 4] [3] Q [(1, .bptr (H.length, 1) 0), (3, apS (H.length, 37) 5 ((actsL (ds.take i)).map Deal.row)), (4, .pure (.int .i64 i))]
   (apF 37 5 ((actsL (ds.take i)).map Deal.row) [(1, .box [w0, .pure (.slice (ds.map Deal.row))])] :: H) 39 := by
 intro k
 induction k with
 | zero =>
  intro i hi h1
  have hia : ¬ i < ds.length := by omega
  rw [List.take_of_length_le (by omega)]
  apply WPL_step
  conv => arg 4; whnf
  simp [hia, hH]
  exact h1
 | succ k ih =>
  intro i hi h1
  have hia : i < ds.length := by omega
  have hwr := w64 (x := (i : Int) + 1) (by omega) (by omega)
  have ih' := ih (i + 1) (by omega) h1
  clear ih h1
  rw [actsL_take hia, List.map_append] at ih'
  have hlen := actsL_len (ds.take i) fun d hd => (hc d (List.mem_of_mem_take hd)).2
  have hlen2 : ((actsL (ds.take i)).map Deal.row).length ≤ 99000 := by
   rw [List.length_map]; rw [List.length_take] at hlen; omega
  generalize ((actsL (ds.take i)).map Deal.row) = rows at *
  have hcd := hc ds[i] (List.getElem_mem hia)
  generalize hdd : ds[i] = d at *
  obtain ⟨dk, db, dO, dw, dc⟩ := d
  simp only at hcd
  obtain ⟨n, rfl⟩ := Int.eq_ofNat_of_zero_le hcd.1
  have A := fun n (hn : n ≤ 12) r4 Q hq => acts_in (.box [w0, .pure (.slice (ds.map Deal.row))]) i dk db dO dw r4 Q hH n rows (by omega) hq
  apply WPL_step
  conv => arg 4; whnf
  by_cases k4 : dk = 4
  ·subst k4
   have A' := A n (by omega) 1
   have e : actsD ⟨4, db, dO, dw, n⟩ = List.replicate n ⟨4, db, dO, dw, 1⟩ := by simp [actsD, drawsB]
   rw [e, List.map_replicate] at ih'
   try simp at A'
   simp [hia, hH, hdd, Deal.row]
   refine A' _ ?_
   simp [hwr]
   simpa [Deal.row] using ih'
  by_cases k5 : dk = 5
  ·subst k5
   have A' := A n (by omega) 1
   have e : actsD ⟨5, db, dO, dw, n⟩ = List.replicate n ⟨5, db, dO, dw, 1⟩ := by simp [actsD, drawsB]
   rw [e, List.map_replicate] at ih'
   try simp at A'
   simp [hia, hH, hdd, Deal.row]
   refine A' _ ?_
   simp [hwr]
   simpa [Deal.row] using ih'
  ·have A' := A 1 (by omega) n
   have e : actsD ⟨dk, db, dO, dw, n⟩ = [⟨dk, db, dO, dw, n⟩] := by simp [actsD, drawsB, k4, k5]
   rw [e] at ih'
   try simp at A'
   simp [hia, hH, hdd, Deal.row, k4, k5]
   refine A' _ ?_
   simp [hwr]
   simpa [Deal.row] using ih'
theorem acts_ok {ws : List (List PV)} {ds : List Deal} (hds : ds.length ≤ 24) (hc : ∀ d ∈ ds, 0 ≤ d.count ∧ d.count ≤ 12) (hH : 0 < H.length) :
  gcall KC (geval KC) 94 [.pure (.agg [.slice ws, .slice (ds.map Deal.row)])] c H = some (.pure (.slice ((actsL ds).map Deal.row)), H) := by
 refine WPv_eq (call_enter KC needT Try.func94 rfl rfl good94 rfl rfl rfl (by simp) hH ?_)
 have L := fun Q hq => acts_loop ds hds hc (.pure (.slice ws)) Q hH ds.length 0 (by omega) hq
 simp [actsL, apS_nil, apF_nil] at L
 unfold actsL
 simp
 refine L _ ?_
 generalize List.map Deal.row (List.flatMap actsD ds) = rows at *
 simp [gleave_free]
 exact cc_apS rfl (by omega)
end
theorem sum_set : ∀ {L : List Int} {w : Nat} {v : Int}, w < L.length → (L.set w v).sum = L.sum + (v - L.getD w 0)
 | x :: L, 0, v, _ => by simp; omega
 | x :: L, w + 1, v, h => by
  have := sum_set (L := L) (w := w) (v := v) (by simpa using h)
  simp at this ⊢
  omega
theorem bagL_set {B : List Int} {b b' w : Nat} {v : Int} (hw : w < 6) : bagL (B.set (b * 6 + w) v) b' = if b' = b then (bagL B b).set w v else bagL B b' := by
 apply List.ext_getElem?
 intro i
 by_cases hi : i < 6
 ·rw [bagL_get hi, List.getElem?_set]
  by_cases e : b' = b
  ·subst e
   rw [if_pos rfl, List.getElem?_set, bagL_get hi]
   by_cases ei : w = i
   ·subst ei
    rw [if_pos rfl, if_pos rfl]
    unfold bagL
    by_cases hl : b' * 6 + w < B.length
    ·rw [if_pos hl, if_pos (by simp; omega)]
    ·rw [if_neg hl, if_neg (by simp; omega)]
   ·rw [if_neg (by omega), if_neg ei]
  ·rw [if_neg e, if_neg (by omega), bagL_get hi]
 ·have h1 : ∀ C : List Int, ∀ q, (bagL C q)[i]? = none := fun C q => by unfold bagL; rw [List.getElem?_take, if_neg hi]
  split
  ·rw [h1, List.getElem?_set]
   split
   ·omega
   ·rw [h1]
  ·rw [h1, h1]
theorem bagL_getD {B : List Int} {b w : Nat} (hw : w < 6) : (bagL B b).getD w 0 = B.getD (b * 6 + w) 0 := by
 rw [List.getD_eq_getElem?_getD, List.getD_eq_getElem?_getD, bagL_get hw]
theorem size_set {B : List Int} {b b' w : Nat} {v : Int} (hl : B.length = 24) (hb : b < 4) (hw : w < 6) : sizeB (B.set (b * 6 + w) v) b' = sizeB B b' + (if b' = b then v - B.getD (b * 6 + w) 0 else 0) := by
 unfold sizeB
 rw [bagL_set hw]
 by_cases e : b' = b
 ·subst e
  rw [if_pos rfl, if_pos rfl, sum_set (by unfold bagL; simp; omega), bagL_getD hw]
 ·rw [if_neg e, if_neg e]; omega
theorem pourB_size (B : List Int) (b o : Nat) (hl : B.length = 24) (hb : b < 4) (ho : o < 4) (hne : b ≠ o) (b' : Nat) : ∀ n, n ≤ 6 → sizeB (pourB B b o n) b' = sizeB B b' + (if b' = o then ((bagL B b).take n).sum else 0) - (if b' = b then ((bagL B b).take n).sum else 0)
 | 0, _ => by simp [pourB]
 | n + 1, h => by
  have ih := pourB_size B b o hl hb ho hne b' n (by omega)
  have hlp := pourB_len B b o n
  have gx := pourB_keep B b o n (o * 6 + n) (by omega) (by omega)
  have gy := pourB_keep B b o n (b * 6 + n) (by omega) (by omega)
  have hy : (bagL B b)[n]? = some (B.getD (b * 6 + n) 0) := by rw [bagL_get (by omega), getD_get (by omega)]
  rw [take_sum hy, pourB, size_set (by simp [hlp, hl]) hb (by omega), size_set (by omega) ho (by omega), getD_set_ne' (by omega), gx, gy, ih]
  by_cases e1 : b' = o
  ·have e2 : ¬ b' = b := fun e => hne (by omega)
   simp only [if_pos e1, if_neg e2]; omega
  ·by_cases e2 : b' = b
   ·simp only [if_neg e1, if_pos e2]; omega
   ·simp only [if_neg e1, if_neg e2]; omega
structure SI (s : List Int) : Prop where
 len : s.length = 4
 nn : ∀ x ∈ s, 0 ≤ x
 sum : s.sum ≤ 12
structure BI (nw : Nat) (s B : List Int) : Prop where
 len : B.length = 24
 nn : ∀ x ∈ B, 0 ≤ x
 sz : ∀ b, b < 4 → sizeB B b = s.getD b 0
 hw : ∀ b w, b < 4 → w < 6 → nw ≤ w → B.getD (b * 6 + w) 0 = 0
theorem mem_le_sum : ∀ {L : List Int}, (∀ x ∈ L, 0 ≤ x) → (0 ≤ L.sum) ∧ ∀ x ∈ L, x ≤ L.sum
 | [], _ => by simp
 | y :: L, h => by
  obtain ⟨h0, h1⟩ := mem_le_sum (L := L) fun x hx => h x (by simp [hx])
  have hy := h y (by simp)
  refine ⟨by simp; omega, fun x hx => ?_⟩
  rcases List.mem_cons.1 hx with rfl | hx
  ·simp; omega
  ·have := h1 x hx; simp; omega
theorem SI.le {s : List Int} (h : SI s) (b : Nat) : 0 ≤ s.getD b 0 ∧ s.getD b 0 ≤ 12 := by
 by_cases hb : b < s.length
 ·have hm : s.getD b 0 ∈ s := by rw [List.getD_eq_getElem?_getD, List.getElem?_eq_getElem hb]; exact List.getElem_mem hb
  obtain ⟨h0, h1⟩ := mem_le_sum h.nn
  have := h1 _ hm; have := h.nn _ hm; have := h.sum
  omega
 ·rw [List.getD_eq_getElem?_getD, List.getElem?_eq_none (by omega)]; simp
theorem BI.nn_get {nw : Nat} {s B : List Int} (h : BI nw s B) (o : Nat) : 0 ≤ B.getD o 0 := by
 by_cases ho : o < B.length
 ·rw [List.getD_eq_getElem?_getD, List.getElem?_eq_getElem ho]; exact h.nn _ (List.getElem_mem ho)
 ·rw [List.getD_eq_getElem?_getD, List.getElem?_eq_none (by omega)]; simp
theorem BI.bok {nw : Nat} {s B : List Int} (hs : SI s) (h : BI nw s B) : BOk B := by
 refine ⟨h.len, fun x hx => ⟨h.nn x hx, ?_⟩⟩
 obtain ⟨i, hi, rfl⟩ := List.getElem_of_mem hx
 have hl := h.len
 have hb : i / 6 < 4 := by omega
 have hz := h.sz (i / 6) hb
 have hm : B[i] ∈ bagL B (i / 6) := by
  have := bagL_get (B := B) (b := i / 6) (i := i % 6) (by omega)
  rw [show i / 6 * 6 + i % 6 = i by omega, List.getElem?_eq_getElem hi] at this
  exact List.mem_of_getElem? this
 have := (mem_le_sum (L := bagL B (i / 6)) fun x hx => h.nn x (List.mem_of_mem_drop (List.mem_of_mem_take hx))).2 _ hm
 have h3 := (hs.le (i / 6)).2
 unfold sizeB at hz
 omega
theorem set4 {s : List Int} (h : s.length = 4) {b b' : Nat} {v : Int} (hb : b < 4) : (s.set b v).getD b' 0 = if b' = b then v else s.getD b' 0 := by
 rw [List.getD_eq_getElem?_getD, List.getElem?_set, List.getD_eq_getElem?_getD]
 by_cases e : b' = b
 ·rw [if_pos e.symm, if_pos (by omega), if_pos e]; rfl
 ·rw [if_neg (Ne.symm e), if_neg e]
theorem set24 {B : List Int} (h : B.length = 24) {o o' : Nat} {v : Int} (ho : o < 24) : (B.set o v).getD o' 0 = if o' = o then v else B.getD o' 0 := by
 rw [List.getD_eq_getElem?_getD, List.getElem?_set, List.getD_eq_getElem?_getD]
 by_cases e : o' = o
 ·rw [if_pos e.symm, if_pos (by omega), if_pos e]; rfl
 ·rw [if_neg (Ne.symm e), if_neg e]
theorem mem_set_nn {B : List Int} {o : Nat} {v : Int} (h : ∀ x ∈ B, 0 ≤ x) (hv : 0 ≤ v) : ∀ x ∈ B.set o v, 0 ≤ x := fun x hx => by
 rcases List.mem_or_eq_of_mem_set hx with h' | h'
 ·exact h x h'
 ·omega
def readyS (s : List Int) (d : Deal) : List Int :=
 if d.kind = 2 then s.set d.bag.toNat (s.getD d.bag.toNat 0 + d.count)
 else if d.kind = 3 then (s.set d.other.toNat (s.getD d.other.toNat 0 + s.getD d.bag.toNat 0)).set d.bag.toNat 0 else s
def drawS (s : List Int) (d : Deal) : List Int := s.set d.bag.toNat (s.getD d.bag.toNat 0 - 1)
def stepS (s : List Int) (d : Deal) : List Int := if drawsB d = true then drawS s d else readyS s d
def szA : List Int → List Deal → List Int
 | _, [] => []
 | s, d :: r => if drawsB d = true then s.getD d.bag.toNat 0 :: szA (stepS s d) r else szA (stepS s d) r
def okA (nw : Nat) : List Int → List Deal → Prop
 | _, [] => True
 | s, d :: r => SI (stepS s d) ∧ DR d ∧ (drawsB d = true → 1 ≤ s.getD d.bag.toNat 0) ∧ (d.kind = 2 ∨ d.kind = 6 → d.wood.toNat < nw) ∧ okA nw (stepS s d) r
theorem BI.draw {nw : Nat} {s B : List Int} {b w : Nat} (hs : SI s) (h : BI nw s B) (hb : b < 4) (hw : w < 6) (hp : 0 < B.getD (b * 6 + w) 0) :
  BI nw (s.set b (s.getD b 0 - 1)) (B.set (b * 6 + w) (B.getD (b * 6 + w) 0 - 1)) ∧ w < nw := by
 refine ⟨⟨by simp [h.len], mem_set_nn h.nn (by omega), fun b' hb' => ?_, fun b' w' hb' hw' hn => ?_⟩, ?_⟩
 ·rw [size_set h.len hb hw, set4 hs.len hb, h.sz b' hb']
  by_cases e : b' = b
  ·subst e; rw [if_pos rfl, if_pos rfl]; omega
  ·rw [if_neg e, if_neg e]; omega
 ·rw [set24 h.len (by omega)]
  split
  ·rename_i e
   have := h.hw b' w' hb' hw' hn
   rw [e] at this; omega
  ·exact h.hw b' w' hb' hw' hn
 ·rcases Nat.lt_or_ge w nw with h' | h'
  ·exact h'
  ·have := h.hw b w hb hw h'; omega
theorem pourB_nn {B : List Int} {b o : Nat} (h : ∀ x ∈ B, 0 ≤ x) : ∀ n, ∀ x ∈ pourB B b o n, 0 ≤ x
 | 0 => h
 | n + 1 => by
  have ih := pourB_nn (b := b) (o := o) h n
  have hg : ∀ q, 0 ≤ (pourB B b o n).getD q 0 := fun q => by
   by_cases hq : q < (pourB B b o n).length
   ·rw [List.getD_eq_getElem?_getD, List.getElem?_eq_getElem hq]; exact ih _ (List.getElem_mem hq)
   ·rw [List.getD_eq_getElem?_getD, List.getElem?_eq_none (by omega)]; simp
  rw [pourB]
  exact mem_set_nn (mem_set_nn ih (by have := hg (o * 6 + n); have := hg (b * 6 + n); omega)) (by omega)
theorem pourB_hw {B : List Int} {b o nw : Nat} (hl : B.length = 24) (hb : b < 4) (ho : o < 4) (h : ∀ b w, b < 4 → w < 6 → nw ≤ w → B.getD (b * 6 + w) 0 = 0) : ∀ n, n ≤ 6 → ∀ b' w, b' < 4 → w < 6 → nw ≤ w → (pourB B b o n).getD (b' * 6 + w) 0 = 0
 | 0, _ => h
 | n + 1, hn => fun b' w hb' hw hnw => by
  have ih := pourB_hw hl hb ho h n (by omega)
  have hlp := pourB_len B b o n
  rw [pourB, set24 (by simp [hlp, hl]) (by omega)]
  split
  ·rfl
  ·rw [set24 (by omega) (by omega)]
   split
   ·rename_i e1 e2
    have hwn : w = n := by omega
    subst hwn
    rw [ih o w ho hw hnw, ih b w hb hw hnw]; rfl
   ·exact ih b' w hb' hw hnw
theorem BI.ready {nw : Nat} {s B : List Int} {d : Deal} (hs : SI s) (h : BI nw s B) (hd : DR d) (hw2 : d.kind = 2 → d.wood.toNat < nw) : BI nw (readyS s d) (readyB B d) := by
 have hb : d.bag.toNat < 4 := by have := hd.b0; have := hd.b3; omega
 have ho : d.other.toNat < 4 := by have := hd.o0; have := hd.o3; omega
 have hw : d.wood.toNat < 6 := by have := hd.w0; have := hd.w5; omega
 have hc := hd.c0
 unfold readyS readyB
 by_cases k2 : d.kind = 2
 ·rw [if_pos k2, if_pos k2]
  refine ⟨by simp [h.len], mem_set_nn h.nn (by have := h.nn_get (d.bag.toNat * 6 + d.wood.toNat); omega), fun b' hb' => ?_, fun b' w' hb' hw' hn => ?_⟩
  ·rw [size_set h.len hb hw, set4 hs.len hb, h.sz b' hb']
   by_cases e : b' = d.bag.toNat
   ·rw [if_pos e, if_pos e, e]; omega
   ·rw [if_neg e, if_neg e]; omega
  ·rw [set24 h.len (by omega), if_neg (by have := hw2 k2; omega)]
   exact h.hw b' w' hb' hw' hn
 ·rw [if_neg k2, if_neg k2]
  by_cases k3 : d.kind = 3
  ·rw [if_pos k3, if_pos k3]
   have hne : d.bag.toNat ≠ d.other.toNat := fun e => hd.ne k3 (by have := hd.b0; have := hd.o0; omega)
   refine ⟨by rw [pourB_len]; exact h.len, pourB_nn h.nn 6, fun b' hb' => ?_, fun b' w' hb' hw' hn => pourB_hw h.len hb ho h.hw 6 (by omega) b' w' hb' hw' hn⟩
   have e6 : (bagL B d.bag.toNat).take 6 = bagL B d.bag.toNat := List.take_of_length_le (by unfold bagL; simp; omega)
   have hsz := h.sz d.bag.toNat hb
   have hso := h.sz b' hb'
   rw [pourB_size B _ _ h.len hb ho hne b' 6 (by omega), e6, set4 (by simp [hs.len]) hb, set4 hs.len ho, hso]
   unfold sizeB at hsz
   rw [hsz]
   by_cases e1 : b' = d.other.toNat
   ·have e2 : ¬ b' = d.bag.toNat := fun e => hne (by omega)
    rw [if_pos e1, if_neg e2, if_neg e2, if_pos e1, e1]; omega
   ·by_cases e2 : b' = d.bag.toNat
    ·rw [if_neg e1, if_pos e2, if_pos e2, e2]; omega
    ·rw [if_neg e1, if_neg e2, if_neg e2, if_neg e1]; omega
  ·rw [if_neg k3, if_neg k3]; exact h
section
variable {c : Nat} {H : Heap}
theorem drawsR_ok {d : Deal} (hH : 0 < H.length) : gcall KC (geval KC) 95 [.pure (.agg d.row)] c H = some (.pure (.bool (drawsB d)), H) := by
 refine WPv_eq (call_enter KC needT Try.func95 rfl rfl good95 rfl rfl rfl (by simp) hH ?_)
 obtain ⟨dk, db, dO, dw, dc⟩ := d
 simp only [Deal.row, drawsB]
 by_cases h : dk = 4
 ·subst h; simp [gleave_free]
 ·by_cases h5 : dk = 5
  ·subst h5; simp [gleave_free]
  ·simp [h, h5, gleave_free]
def bx (B : List Int) : Blk := .box ((B.map fun n => (PV.int .i64 n)).map GV.pure)
theorem sizes_loop (acts : List Deal) (nw : Nat) (hla : acts.length ≤ 1000) (g : Blk) (Q : GX → GSt → Prop) (hH : 0 < H.length) : ∀ (k i : Nat) (s B : List Int) (out : List (List PV)), i + k = acts.length → out.length ≤ i → SI s → BI nw s B → okA nw s (acts.drop i) →
  (∀ B', Q (.exit 0) ⟨[(3, apS (H.length, 29) 1 (out ++ (szA s (acts.drop i)).map irow))], apF 29 1 (out ++ (szA s (acts.drop i)).map irow) [(1, g), (4, bx B')] :: H, 51⟩) →
  WPL KC needT 62 (lp Try.f62 0) [3, 4, 5, 6] [3] Q [(3, apS (H.length, 29) 1 out), (4, .bptr (H.length, 4) 0), (5, .pure (.slice (acts.map Deal.row))), (6, .pure (.int .i64 i))]
   (apF 29 1 out [(1, g), (4, bx B)] :: H) 51 := by
 intro k
 induction k with
 | zero =>
  intro i s B out hi ho hs hB ha h1
  have hia : ¬ i < acts.length := by omega
  rw [List.drop_eq_nil_of_le (by omega)] at h1
  have h1' := h1 B
  simp only [szA, List.map_nil, List.append_nil] at h1'
  apply WPL_step
  conv => arg 4; whnf
  simp [hia, hH]
  exact h1'
 | succ k ih =>
  intro i s B out hi ho hs hB ha h1
  have hia : i < acts.length := by omega
  have hwr := w64 (x := (i : Int) + 1) (by omega) (by omega)
  rw [List.drop_eq_getElem_cons hia] at ha h1
  obtain ⟨hs2, hd, hdr, hwd, ha2⟩ := ha
  have hbok := hB.bok hs
  have D := fun c (G : Heap) (hG : 0 < G.length) => drawsR_ok (c := c) (H := G) (d := acts[i]) hG
  have hb4 : acts[i].bag.toNat < 4 := by have := hd.b0; have := hd.b3; omega
  have hlB := hB.len
  by_cases hdb : drawsB acts[i] = true
  ·have h1s := hdr hdb
   have hsz := hB.sz _ hb4
   have hf := fstW_spec hbok hb4 (by omega)
   have hd1 := hB.draw hs hb4 hf.1 hf.2
   have es : stepS s acts[i] = s.set acts[i].bag.toNat (s.getD acts[i].bag.toNat 0 - 1) := by unfold stepS drawS; rw [if_pos hdb]
   rw [szA, if_pos hdb] at h1
   have ih' := ih (i + 1) (stepS s acts[i]) _ (out ++ [irow (s.getD acts[i].bag.toNat 0)]) (by omega) (by simp; omega) hs2 (es ▸ hd1.1) ha2 (fun B' => by
    rw [List.append_assoc, List.singleton_append]
    simpa using h1 B')
   clear ih h1
   have S := fun c (G : Heap) (hG : 0 < G.length) => size_ok (c := c) (H := G) hbok hb4 hG
   have W := fun c (G : Heap) (hG : 0 < G.length) => wood0_ok (c := c) (H := G) hbok hb4 (by omega) hG
   have O := fun c (G : Heap) (hG : 0 < G.length) => without_ok (c := c) (H := G) hbok hb4 hf.1 hG
   rw [hsz] at S
   rw [hdb] at D
   generalize s.getD acts[i].bag.toNat 0 = sz at *
   generalize (B.set (acts[i].bag.toNat * 6 + fstW B acts[i].bag.toNat) (B.getD (acts[i].bag.toNat * 6 + fstW B acts[i].bag.toNat) 0 - 1)) = B1 at *
   have hlB1 := hd1.1.len
   generalize fstW B acts[i].bag.toNat = fw1 at *
   generalize hdd : acts[i] = d at *
   have hbag : ((d.bag.toNat : Nat) : Int) = d.bag := by have := hd.b0; omega
   rw [hbag] at S W O
   clear hd1 hf es hs2 ha2
   obtain ⟨dk, db, dO, dw, dc⟩ := d
   simp only [Deal.row] at D
   simp only at S W O hbag
   unfold bgP at S W O
   unfold bx at ih' ⊢
   have l1 : (B.map fun n => (PV.int .i64 n)).length = 24 := by simp [hlB]
   have l2 : (B1.map fun n => (PV.int .i64 n)).length = 24 := by simp [hlB1]
   generalize (B.map fun n => (PV.int .i64 n)) = Ps at *
   generalize (B1.map fun n => (PV.int .i64 n)) = P1 at *
   have l3 : List.drop 24 (List.map GV.pure Ps) = [] := List.drop_eq_nil_of_le (by simp [l1])
   have hob : (out.length + 1) * 8 ≤ 1099511627776 := by omega
   apply WPL_step
   conv => arg 4; whnf
   simp [hia, hH, hwr, hdd, Deal.row, D, ld24 l1, S, W, O, l1, l2, l3, hob]
   simpa [irow] using ih'
  ·have hdb' : drawsB acts[i] = false := by simpa using hdb
   have es : stepS s acts[i] = readyS s acts[i] := by unfold stepS; rw [if_neg hdb]
   have hd1 := hB.ready hs hd (fun e => hwd (.inl e))
   rw [szA, if_neg hdb] at h1
   have ih' := ih (i + 1) (stepS s acts[i]) _ out (by omega) (by omega) hs2 (es ▸ hd1) ha2 h1
   clear ih h1
   have R := fun c (G : Heap) (hG : 0 < G.length) => ready_ok (c := c) (H := G) hbok hd hG
   rw [hdb'] at D
   have hlB1 := hd1.len
   generalize readyB B acts[i] = B1 at *
   generalize hdd : acts[i] = d at *
   clear hd1 es hs2 ha2
   obtain ⟨dk, db, dO, dw, dc⟩ := d
   simp only [Deal.row] at D R
   unfold bgP at R
   unfold bx at ih' ⊢
   have l1 : (B.map fun n => (PV.int .i64 n)).length = 24 := by simp [hlB]
   have l2 : (B1.map fun n => (PV.int .i64 n)).length = 24 := by simp [hlB1]
   generalize (B.map fun n => (PV.int .i64 n)) = Ps at *
   generalize (B1.map fun n => (PV.int .i64 n)) = P1 at *
   have l3 : List.drop 24 (List.map GV.pure Ps) = [] := List.drop_eq_nil_of_le (by simp [l1])
   apply WPL_step
   conv => arg 4; whnf
   simp [hia, hH, hwr, hdd, Deal.row, D, ld24 l1, R, l1, l2, l3]
   simpa using ih'
theorem SI0 : SI [0, 0, 0, 0] := ⟨rfl, by simp, by simp⟩
theorem BI0 (nw : Nat) : BI nw [0, 0, 0, 0] (List.replicate 24 0) := by
 refine ⟨rfl, fun x hx => by rw [List.eq_of_mem_replicate hx]; omega, fun b hb => ?_, fun b w hb hw _ => ?_⟩
 ·have : b = 0 ∨ b = 1 ∨ b = 2 ∨ b = 3 := by omega
  rcases this with rfl | rfl | rfl | rfl <;> rfl
 ·rw [List.getD_eq_getElem?_getD, List.getElem?_replicate]; split <;> rfl
theorem sizes_ok {ws : List (List PV)} {ds : List Deal} {nw : Nat} (hds : ds.length ≤ 24) (hc : ∀ d ∈ ds, 0 ≤ d.count ∧ d.count ≤ 12) (ha : okA nw [0, 0, 0, 0] (actsL ds)) (hH : 0 < H.length) :
  gcall KC (geval KC) 62 [.pure (.agg [.slice ws, .slice (ds.map Deal.row)])] c H = some (.pure (.slice ((szA [0, 0, 0, 0] (actsL ds)).map irow)), H) := by
 refine WPv_eq (call_enter KC needT Try.func62 rfl rfl good62 rfl rfl rfl (by simp) hH ?_)
 have A := fun c (G : Heap) (hG : 0 < G.length) => acts_ok (c := c) (H := G) (ws := ws) hds hc hG
 have hl := actsL_len ds fun d hd => (hc d hd).2
 have L := fun g Q hq => sizes_loop (actsL ds) nw (by omega) g Q hH (actsL ds).length 0 _ _ [] (by omega) (by simp) SI0 (BI0 nw) ha hq
 simp [bx, apS_nil, apF_nil] at L
 simp [A]
 generalize (szA [0, 0, 0, 0] (actsL ds)).map irow = rows at *
 refine L _ _ (fun B' => ?_)
 simp [gleave_free]
 exact cc_apS rfl (by omega)
end
end Go.Gh
