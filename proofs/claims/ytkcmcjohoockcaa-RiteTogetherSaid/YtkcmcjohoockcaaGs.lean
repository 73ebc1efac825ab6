/- The context of a seat: annotations of its functions, facts on its types (made by program). -/
import Derived.Test.YtkcmcjohoockcaaGw
import Derived.Test.YtkcmcjohoockcaaProg
import Derived.KernelRfl
namespace Go.Gh
open Go.Proofs
set_option linter.unusedSimpArgs false
set_option linter.unusedVariables false

def annT : List (Nat × Nat × List Nat × List Nat) := [(4, 7, [3, 4, 6], [2]), (5, 8, [3, 4, 9], [2, 3, 4]), (5, 13, [3, 4, 10], [2]), (6, 6, [3, 4, 5, 6], [4, 5]), (7, 9, [3, 4, 5, 6, 7, 8, 9, 10, 11], [3, 4, 5, 6, 7, 8, 9, 10]), (7, 13, [3, 4, 5, 6, 7, 8, 9, 10, 12], [3, 4, 5, 6, 7, 8, 9]), (7, 24, [7, 8, 9, 15, 16, 17, 18, 19, 20], [7, 8, 9, 15, 16, 17, 18, 19]), (12, 6, [0, 6, 7, 8, 9, 10], [6, 7, 8, 9]), (12, 23, [6, 7, 8, 9, 18], [6, 7, 8]), (12, 26, [6, 7, 8, 9, 18, 19], [6, 7, 8, 9, 18]), (12, 33, [6, 7, 8, 21], [6, 7]), (13, 4, [0, 3, 4], [3]), (15, 8, [1, 17, 18, 19], [2]), (17, 5, [2, 3, 5], [2, 3, 4]), (17, 10, [2, 3, 6], [4]), (19, 6, [2, 3, 5, 6], [2, 3, 4, 5]), (19, 11, [2, 3, 5, 6, 7], [2, 3, 4, 5, 6]), (19, 19, [2, 3, 5, 9], [4]), (21, 5, [2, 3, 5], [2, 3, 4]), (21, 10, [2, 3, 6], [4]), (23, 5, [0, 1, 5], [4]), (25, 9, [1, 2, 3, 6, 9, 28, 29, 30], [3, 6, 9]), (27, 5, [0, 1, 5], [4]), (30, 5, [1, 2, 3, 4], [0]), (32, 5, [0, 4, 5, 6, 7], [0, 4, 5]), (32, 9, [0, 4, 5, 8], [0, 4, 5]), (32, 16, [0, 4, 5, 10], [4, 5]), (33, 4, [1, 2, 3, 4], [1, 2, 3]), (33, 8, [1, 2, 3, 5], [2, 3]), (35, 5, [0, 5, 6, 8, 10, 11, 12], [0, 8, 10]), (40, 10, [1, 30, 31, 32], [1, 2]), (40, 17, [1, 4, 30, 31, 32, 51, 52, 53], [1, 2, 30, 31, 32]), (40, 26, [1, 69, 70, 71], [1, 2]), (46, 7, [1, 3], [2]), (46, 15, [1, 3, 4, 5], [1, 2, 3]), (47, 5, [1, 3], [1, 2]), (47, 13, [1, 5], [1, 2]), (47, 20, [1, 6], [2]), (48, 5, [1, 3], [2]), (48, 15, [1, 3, 4, 5], [1, 2, 3, 4]), (49, 5, [0, 1, 5], [4]), (53, 3, [0, 1, 5], [4]), (57, 6, [1, 24, 25], [2, 3, 4]), (57, 9, [1, 8, 24, 25, 29, 30, 31], [1, 2, 3, 4, 24, 25]), (58, 4, [0, 1, 5, 6], [5]), (59, 4, [1, 2, 5, 6], [1, 2, 5]), (59, 8, [1, 2, 5, 7], [5]), (59, 11, [1, 2, 5, 7, 8], [1, 2, 5, 7]), (59, 18, [1, 2, 5, 7, 8, 9, 10], [1, 2, 5, 7, 8]), (59, 24, [1, 2, 5, 7, 8, 9, 11], [1, 2, 5, 7, 8]), (60, 6, [3, 4, 5, 9], [3, 4, 5, 6]), (61, 3, [1, 2, 5], [4]), (66, 3, [0, 1, 2, 9, 10, 11], [6]), (69, 3, [0, 1, 7, 8], [4]), (72, 4, [1, 2, 3, 11, 12, 13], [1, 2, 3]), (72, 10, [2, 3, 36, 37, 38], [2, 3]), (73, 4, [1, 2, 3, 6, 9], [3, 6, 7, 8]), (73, 6, [1, 2, 3, 6, 9, 10], [1, 2, 3, 6, 9, 10]), (74, 3, [1, 9, 10, 11], [1, 2]), (74, 9, [1, 21, 22, 23], [2]), (82, 12, [12, 16, 17, 51], [6, 7]), (85, 3, [0, 1, 5], [4]), (85, 6, [0, 1, 5, 6], [0, 1, 4, 5]), (88, 5, [2, 4, 7, 8, 19, 20, 21], [4, 5, 6, 7]), (88, 11, [2, 4, 7, 8, 9, 10, 11, 19, 20, 21, 35, 36, 37], [2, 4, 5, 6, 7, 8, 10, 11, 19, 20, 21]), (88, 17, [2, 4, 7, 8, 10, 19, 20, 21, 47, 48, 49], [2, 4, 7, 8, 10, 19, 20, 21]), (89, 11, [7, 8, 9], [7]), (90, 5, [3, 8, 9], [8, 9]), (98, 3, [1, 2, 4, 5], [2, 4, 5]), (103, 3, [0, 1, 7, 8], [4]), (104, 4, [1, 2, 4, 5], []), (104, 8, [1, 2, 4, 5, 18, 19], [1, 2, 4, 5]), (104, 13, [1, 2, 4, 5, 30], [1, 2, 4, 5]), (104, 20, [1, 2, 4, 5, 8, 30, 47, 48], [1, 2, 4, 5, 30]), (104, 26, [1, 2, 4, 5, 8, 30, 62, 63], [1, 2, 4, 5, 30]), (124, 3, [0, 1, 2, 6, 7, 8], [0, 1, 2, 6, 7]), (124, 8, [0, 1, 2, 6], []), (124, 10, [0, 1, 2, 6, 7, 8], [0, 1, 2, 6, 7]), (129, 2, [0, 1, 2, 3, 8], []), (129, 5, [0, 1, 2, 3, 8, 9], [0, 1, 2, 3, 8]), (130, 4, [0, 1, 4, 10, 11], [0, 1, 10]), (130, 10, [0, 10, 13], []), (130, 16, [0, 2, 4, 14, 15], [0, 2, 14]), (130, 22, [0, 14, 17], []), (130, 34, [0, 1, 2, 3, 4, 18, 19, 20, 21, 22], [0, 1, 2, 3, 4, 18, 19, 20]), (131, 3, [0, 2, 4, 10, 11], [0, 2, 4, 10]), (132, 2, [0, 1, 2, 3, 10], [])]
def upT : List (Nat × Nat × Up) := [(7, 100, .scopes 1), (8, 42, .scopes 0), (8, 45, .scopes 0), (8, 49, .scopes 0), (11, 6, .scopes 0), (11, 10, .scopes 0), (11, 22, .scopes 0), (12, 62, .box 7), (12, 102, .box 7), (12, 140, .box 7), (25, 56, .scopes 1), (29, 10, .scopes 0), (29, 16, .scopes 0), (31, 5, .scopes 0), (32, 46, .box 5), (32, 83, .box 5), (32, 96, .box 5), (33, 22, .box 3), (33, 27, .box 3), (33, 53, .box 3), (35, 35, .scopes 1), (35, 52, .scopes 1), (36, 6, .scopes 0), (36, 10, .scopes 0), (36, 14, .scopes 0), (51, 8, .box 1), (58, 20, .scopes 1), (59, 26, .scopes 1), (59, 43, .scopes 2), (59, 58, .scopes 3), (59, 76, .scopes 3), (64, 61, .box 5), (72, 23, .box 3), (72, 31, .box 3), (72, 51, .box 3), (75, 7, .scopes 0), (76, 7, .scopes 0), (77, 7, .scopes 0), (78, 7, .scopes 0), (79, 7, .scopes 0), (80, 7, .scopes 0), (93, 64, .scopes 0), (96, 27, .scopes 0), (96, 35, .scopes 0), (96, 43, .scopes 0), (96, 53, .scopes 0), (96, 60, .scopes 0), (102, 26, .scopes 0)]
def annOf (f r : Nat) : Option (List Nat × List Nat) := (annT.find? fun x => x.1 == f && x.2.1 == r).map fun x => x.2.2
def upOf (f d : Nat) : Up := ((upT.find? fun x => x.1 == f && x.2.1 == d).map fun x => x.2.2).getD (.scopes 0)
def needL : List (Nat × Nat × List (Nat × Nat)) := [(3, 9, [(2, 1), (13, 12)]), (6, 8, [(19, 4)]), (7, 15, [(7, 1), (7, 4), (10, 1), (10, 4), (12, 1), (12, 4), (15, 4)]), (7, 20, [(2, 0), (4, 0)]), (7, 25, [(8, 4)]), (8, 2, [(8, 3), (8, 5), (11, 5)]), (8, 4, [(9, 4), (9, 7)]), (11, 1, [(6, 3)]), (11, 2, [(4, 2), (8, 2), (8, 5)]), (12, 20, [(4, 0)]), (12, 34, [(20, 4)]), (29, 2, [(7, 5)]), (30, 6, [(4, 0), (8, 0)]), (32, 6, [(3, 1), (6, 3), (7, 3), (9, 3)]), (32, 10, [(6, 1), (11, 1), (11, 9), (13, 1), (13, 9)]), (33, 5, [(11, 9)]), (36, 1, [(6, 3), (10, 3), (10, 7)]), (37, 6, [(14, 7), (14, 9)]), (37, 8, [(17, 7)]), (37, 10, [(7, 1), (7, 3), (9, 7), (11, 7), (13, 7), (17, 9), (17, 11), (17, 13)]), (38, 1, [(3, 2), (4, 2)]), (50, 1, [(3, 1)]), (50, 3, [(4, 2), (4, 3)]), (51, 1, [(2, 0)]), (52, 1, [(6, 3), (10, 3), (10, 7)]), (55, 1, [(4, 2), (7, 2), (7, 5), (10, 2), (10, 5), (10, 8)]), (82, 1, [(5, 3), (9, 3), (12, 5), (12, 9)]), (82, 3, [(2, 1), (3, 1)]), (88, 20, [(4, 2), (5, 2)]), (89, 5, [(6, 2)]), (93, 10, [(8, 5), (8, 6), (9, 8), (11, 5), (11, 6), (12, 8), (12, 11)]), (95, 1, [(4, 2), (5, 2)]), (98, 4, [(3, 1)]), (113, 1, [(5, 2), (8, 5), (10, 5), (12, 5)]), (115, 1, [(8, 2), (8, 4), (9, 8), (10, 8), (11, 2), (11, 4)]), (116, 1, [(10, 7)]), (117, 1, [(5, 2)]), (118, 1, [(14, 11), (21, 18), (29, 26), (37, 34)]), (119, 1, [(5, 2)]), (119, 2, [(5, 2)]), (120, 1, [(8, 5)]), (121, 1, [(5, 2)]), (122, 1, [(8, 5)]), (123, 1, [(5, 2)])]
def needT (f r : Nat) : List (Nat × Nat) := ((needL.find? fun x => x.1 == f && x.2.1 == r).map fun x => x.2.2).getD []
def eqsOf : Nat → Option (List SK)
  | 29 => some [.int .i64, .int .i64, .int .i64, .int .i64, .int .i64, .int .i64, .int .i64, .int .i64, .int .i64]
  | 53 => some [.int .i64, .int .i64]
  | 55 => some [.int .i64, .int .i64]
  | 57 => some [.int .i64, .int .i64, .int .i64, .int .i64, .bool]
  | 85 => some [.int .i64, .int .i64]
  | 138 => some [.int .i64, .int .i64]
  | _ => none
@[simp] theorem eqsOf_29 : eqsOf 29 = some [.int .i64, .int .i64, .int .i64, .int .i64, .int .i64, .int .i64, .int .i64, .int .i64, .int .i64] := .trans rfl rfl
@[simp] theorem eqsOf_53 : eqsOf 53 = some [.int .i64, .int .i64] := .trans rfl rfl
@[simp] theorem eqsOf_55 : eqsOf 55 = some [.int .i64, .int .i64] := .trans rfl rfl
@[simp] theorem eqsOf_57 : eqsOf 57 = some [.int .i64, .int .i64, .int .i64, .int .i64, .bool] := .trans rfl rfl
@[simp] theorem eqsOf_85 : eqsOf 85 = some [.int .i64, .int .i64] := .trans rfl rfl
@[simp] theorem eqsOf_138 : eqsOf 138 = some [.int .i64, .int .i64] := .trans rfl rfl
def keepL : List Nat := [11, 12, 13, 32, 33, 36, 52, 72, 55, 25, 28, 29, 75, 76, 77, 78, 79, 80]
def frzL : List Nat := [18, 20, 56, 59, 64, 96, 82, 73, 50, 88]
def borL : List Nat := [25, 33, 55, 9, 14, 15, 16, 17, 19, 21, 23, 27, 35, 38, 40, 41, 44, 45, 46, 47, 48, 49, 53, 57, 60, 61, 63, 65, 70, 71, 74, 92, 81, 83, 84, 85, 86, 87, 90, 95, 106, 107, 108, 110, 112, 114, 116, 118, 120, 122, 103, 126, 127, 128]
def clnL : List Nat := [75, 76, 77, 78, 79, 80]
def ownL : List (Nat × Nat) := [(96, 9), (64, 10), (28, 3), (28, 6), (28, 7), (28, 8), (28, 14)]
def carL : List (Nat × Nat) := [(12, 6)]
def liftOf (f d : Nat) : Option Nat := if f = 12 ∧ d = 54 then some 8 else none
/-- The context; its second one has no function that is trusted with empty slices. -/
noncomputable def KC0 (cl : List Nat) : Ctx := { P := Try.prog, keep := fun f => keepL.contains f, ann := annOf, up := upOf, own := fun f d => ownL.contains (f, d), frz := fun f => frzL.contains f, bor := fun f => borL.contains f, car := fun f r => carL.contains (f, r), cln := fun f => cl.contains f, lift := liftOf, eqs := eqsOf }
noncomputable def KC : Ctx := KC0 clnL
section
@[simp] theorem KC_P : KC.P = Try.prog := .trans rfl rfl
@[simp] theorem KC_own {f d : Nat} : KC.own f d = ownL.contains (f, d) := .trans rfl rfl
@[simp] theorem KC_lift {f d : Nat} : KC.lift f d = liftOf f d := .trans rfl rfl
attribute [simp] liftOf ownL
@[simp] theorem KC_ann_4_7 : KC.ann 4 7 = some ([3, 4, 6], [2]) := by kernel_rfl
@[simp] theorem KC_car_4_7 : KC.car 4 7 = false := by kernel_rfl
@[simp] theorem KC_ann_5_8 : KC.ann 5 8 = some ([3, 4, 9], [2, 3, 4]) := by kernel_rfl
@[simp] theorem KC_car_5_8 : KC.car 5 8 = false := by kernel_rfl
@[simp] theorem KC_ann_5_13 : KC.ann 5 13 = some ([3, 4, 10], [2]) := by kernel_rfl
@[simp] theorem KC_car_5_13 : KC.car 5 13 = false := by kernel_rfl
@[simp] theorem KC_ann_6_6 : KC.ann 6 6 = some ([3, 4, 5, 6], [4, 5]) := by kernel_rfl
@[simp] theorem KC_car_6_6 : KC.car 6 6 = false := by kernel_rfl
@[simp] theorem KC_ann_7_9 : KC.ann 7 9 = some ([3, 4, 5, 6, 7, 8, 9, 10, 11], [3, 4, 5, 6, 7, 8, 9, 10]) := by kernel_rfl
@[simp] theorem KC_car_7_9 : KC.car 7 9 = false := by kernel_rfl
@[simp] theorem KC_ann_7_13 : KC.ann 7 13 = some ([3, 4, 5, 6, 7, 8, 9, 10, 12], [3, 4, 5, 6, 7, 8, 9]) := by kernel_rfl
@[simp] theorem KC_car_7_13 : KC.car 7 13 = false := by kernel_rfl
@[simp] theorem KC_ann_7_24 : KC.ann 7 24 = some ([7, 8, 9, 15, 16, 17, 18, 19, 20], [7, 8, 9, 15, 16, 17, 18, 19]) := by kernel_rfl
@[simp] theorem KC_car_7_24 : KC.car 7 24 = false := by kernel_rfl
@[simp] theorem KC_ann_12_6 : KC.ann 12 6 = some ([0, 6, 7, 8, 9, 10], [6, 7, 8, 9]) := by kernel_rfl
@[simp] theorem KC_car_12_6 : KC.car 12 6 = true := by kernel_rfl
@[simp] theorem KC_ann_12_23 : KC.ann 12 23 = some ([6, 7, 8, 9, 18], [6, 7, 8]) := by kernel_rfl
@[simp] theorem KC_car_12_23 : KC.car 12 23 = false := by kernel_rfl
@[simp] theorem KC_ann_12_26 : KC.ann 12 26 = some ([6, 7, 8, 9, 18, 19], [6, 7, 8, 9, 18]) := by kernel_rfl
@[simp] theorem KC_car_12_26 : KC.car 12 26 = false := by kernel_rfl
@[simp] theorem KC_ann_12_33 : KC.ann 12 33 = some ([6, 7, 8, 21], [6, 7]) := by kernel_rfl
@[simp] theorem KC_car_12_33 : KC.car 12 33 = false := by kernel_rfl
@[simp] theorem KC_ann_13_4 : KC.ann 13 4 = some ([0, 3, 4], [3]) := by kernel_rfl
@[simp] theorem KC_car_13_4 : KC.car 13 4 = false := by kernel_rfl
@[simp] theorem KC_ann_15_8 : KC.ann 15 8 = some ([1, 17, 18, 19], [2]) := by kernel_rfl
@[simp] theorem KC_car_15_8 : KC.car 15 8 = false := by kernel_rfl
@[simp] theorem KC_ann_17_5 : KC.ann 17 5 = some ([2, 3, 5], [2, 3, 4]) := by kernel_rfl
@[simp] theorem KC_car_17_5 : KC.car 17 5 = false := by kernel_rfl
@[simp] theorem KC_ann_17_10 : KC.ann 17 10 = some ([2, 3, 6], [4]) := by kernel_rfl
@[simp] theorem KC_car_17_10 : KC.car 17 10 = false := by kernel_rfl
@[simp] theorem KC_ann_19_6 : KC.ann 19 6 = some ([2, 3, 5, 6], [2, 3, 4, 5]) := by kernel_rfl
@[simp] theorem KC_car_19_6 : KC.car 19 6 = false := by kernel_rfl
@[simp] theorem KC_ann_19_11 : KC.ann 19 11 = some ([2, 3, 5, 6, 7], [2, 3, 4, 5, 6]) := by kernel_rfl
@[simp] theorem KC_car_19_11 : KC.car 19 11 = false := by kernel_rfl
@[simp] theorem KC_ann_19_19 : KC.ann 19 19 = some ([2, 3, 5, 9], [4]) := by kernel_rfl
@[simp] theorem KC_car_19_19 : KC.car 19 19 = false := by kernel_rfl
@[simp] theorem KC_ann_21_5 : KC.ann 21 5 = some ([2, 3, 5], [2, 3, 4]) := by kernel_rfl
@[simp] theorem KC_car_21_5 : KC.car 21 5 = false := by kernel_rfl
@[simp] theorem KC_ann_21_10 : KC.ann 21 10 = some ([2, 3, 6], [4]) := by kernel_rfl
@[simp] theorem KC_car_21_10 : KC.car 21 10 = false := by kernel_rfl
@[simp] theorem KC_ann_23_5 : KC.ann 23 5 = some ([0, 1, 5], [4]) := by kernel_rfl
@[simp] theorem KC_car_23_5 : KC.car 23 5 = false := by kernel_rfl
@[simp] theorem KC_ann_25_9 : KC.ann 25 9 = some ([1, 2, 3, 6, 9, 28, 29, 30], [3, 6, 9]) := by kernel_rfl
@[simp] theorem KC_car_25_9 : KC.car 25 9 = false := by kernel_rfl
@[simp] theorem KC_ann_27_5 : KC.ann 27 5 = some ([0, 1, 5], [4]) := by kernel_rfl
@[simp] theorem KC_car_27_5 : KC.car 27 5 = false := by kernel_rfl
@[simp] theorem KC_ann_30_5 : KC.ann 30 5 = some ([1, 2, 3, 4], [0]) := by kernel_rfl
@[simp] theorem KC_car_30_5 : KC.car 30 5 = false := by kernel_rfl
@[simp] theorem KC_ann_32_5 : KC.ann 32 5 = some ([0, 4, 5, 6, 7], [0, 4, 5]) := by kernel_rfl
@[simp] theorem KC_car_32_5 : KC.car 32 5 = false := by kernel_rfl
@[simp] theorem KC_ann_32_9 : KC.ann 32 9 = some ([0, 4, 5, 8], [0, 4, 5]) := by kernel_rfl
@[simp] theorem KC_car_32_9 : KC.car 32 9 = false := by kernel_rfl
@[simp] theorem KC_ann_32_16 : KC.ann 32 16 = some ([0, 4, 5, 10], [4, 5]) := by kernel_rfl
@[simp] theorem KC_car_32_16 : KC.car 32 16 = false := by kernel_rfl
@[simp] theorem KC_ann_33_4 : KC.ann 33 4 = some ([1, 2, 3, 4], [1, 2, 3]) := by kernel_rfl
@[simp] theorem KC_car_33_4 : KC.car 33 4 = false := by kernel_rfl
@[simp] theorem KC_ann_33_8 : KC.ann 33 8 = some ([1, 2, 3, 5], [2, 3]) := by kernel_rfl
@[simp] theorem KC_car_33_8 : KC.car 33 8 = false := by kernel_rfl
@[simp] theorem KC_ann_35_5 : KC.ann 35 5 = some ([0, 5, 6, 8, 10, 11, 12], [0, 8, 10]) := by kernel_rfl
@[simp] theorem KC_car_35_5 : KC.car 35 5 = false := by kernel_rfl
@[simp] theorem KC_ann_40_10 : KC.ann 40 10 = some ([1, 30, 31, 32], [1, 2]) := by kernel_rfl
@[simp] theorem KC_car_40_10 : KC.car 40 10 = false := by kernel_rfl
@[simp] theorem KC_ann_40_17 : KC.ann 40 17 = some ([1, 4, 30, 31, 32, 51, 52, 53], [1, 2, 30, 31, 32]) := by kernel_rfl
@[simp] theorem KC_car_40_17 : KC.car 40 17 = false := by kernel_rfl
@[simp] theorem KC_ann_40_26 : KC.ann 40 26 = some ([1, 69, 70, 71], [1, 2]) := by kernel_rfl
@[simp] theorem KC_car_40_26 : KC.car 40 26 = false := by kernel_rfl
@[simp] theorem KC_ann_46_7 : KC.ann 46 7 = some ([1, 3], [2]) := by kernel_rfl
@[simp] theorem KC_car_46_7 : KC.car 46 7 = false := by kernel_rfl
@[simp] theorem KC_ann_46_15 : KC.ann 46 15 = some ([1, 3, 4, 5], [1, 2, 3]) := by kernel_rfl
@[simp] theorem KC_car_46_15 : KC.car 46 15 = false := by kernel_rfl
@[simp] theorem KC_ann_47_5 : KC.ann 47 5 = some ([1, 3], [1, 2]) := by kernel_rfl
@[simp] theorem KC_car_47_5 : KC.car 47 5 = false := by kernel_rfl
@[simp] theorem KC_ann_47_13 : KC.ann 47 13 = some ([1, 5], [1, 2]) := by kernel_rfl
@[simp] theorem KC_car_47_13 : KC.car 47 13 = false := by kernel_rfl
@[simp] theorem KC_ann_47_20 : KC.ann 47 20 = some ([1, 6], [2]) := by kernel_rfl
@[simp] theorem KC_car_47_20 : KC.car 47 20 = false := by kernel_rfl
@[simp] theorem KC_ann_48_5 : KC.ann 48 5 = some ([1, 3], [2]) := by kernel_rfl
@[simp] theorem KC_car_48_5 : KC.car 48 5 = false := by kernel_rfl
@[simp] theorem KC_ann_48_15 : KC.ann 48 15 = some ([1, 3, 4, 5], [1, 2, 3, 4]) := by kernel_rfl
@[simp] theorem KC_car_48_15 : KC.car 48 15 = false := by kernel_rfl
@[simp] theorem KC_ann_49_5 : KC.ann 49 5 = some ([0, 1, 5], [4]) := by kernel_rfl
@[simp] theorem KC_car_49_5 : KC.car 49 5 = false := by kernel_rfl
@[simp] theorem KC_ann_53_3 : KC.ann 53 3 = some ([0, 1, 5], [4]) := by kernel_rfl
@[simp] theorem KC_car_53_3 : KC.car 53 3 = false := by kernel_rfl
@[simp] theorem KC_ann_57_6 : KC.ann 57 6 = some ([1, 24, 25], [2, 3, 4]) := by kernel_rfl
@[simp] theorem KC_car_57_6 : KC.car 57 6 = false := by kernel_rfl
@[simp] theorem KC_ann_57_9 : KC.ann 57 9 = some ([1, 8, 24, 25, 29, 30, 31], [1, 2, 3, 4, 24, 25]) := by kernel_rfl
@[simp] theorem KC_car_57_9 : KC.car 57 9 = false := by kernel_rfl
@[simp] theorem KC_ann_58_4 : KC.ann 58 4 = some ([0, 1, 5, 6], [5]) := by kernel_rfl
@[simp] theorem KC_car_58_4 : KC.car 58 4 = false := by kernel_rfl
@[simp] theorem KC_ann_59_4 : KC.ann 59 4 = some ([1, 2, 5, 6], [1, 2, 5]) := by kernel_rfl
@[simp] theorem KC_car_59_4 : KC.car 59 4 = false := by kernel_rfl
@[simp] theorem KC_ann_59_8 : KC.ann 59 8 = some ([1, 2, 5, 7], [5]) := by kernel_rfl
@[simp] theorem KC_car_59_8 : KC.car 59 8 = false := by kernel_rfl
@[simp] theorem KC_ann_59_11 : KC.ann 59 11 = some ([1, 2, 5, 7, 8], [1, 2, 5, 7]) := by kernel_rfl
@[simp] theorem KC_car_59_11 : KC.car 59 11 = false := by kernel_rfl
@[simp] theorem KC_ann_59_18 : KC.ann 59 18 = some ([1, 2, 5, 7, 8, 9, 10], [1, 2, 5, 7, 8]) := by kernel_rfl
@[simp] theorem KC_car_59_18 : KC.car 59 18 = false := by kernel_rfl
@[simp] theorem KC_ann_59_24 : KC.ann 59 24 = some ([1, 2, 5, 7, 8, 9, 11], [1, 2, 5, 7, 8]) := by kernel_rfl
@[simp] theorem KC_car_59_24 : KC.car 59 24 = false := by kernel_rfl
@[simp] theorem KC_ann_60_6 : KC.ann 60 6 = some ([3, 4, 5, 9], [3, 4, 5, 6]) := by kernel_rfl
@[simp] theorem KC_car_60_6 : KC.car 60 6 = false := by kernel_rfl
@[simp] theorem KC_ann_61_3 : KC.ann 61 3 = some ([1, 2, 5], [4]) := by kernel_rfl
@[simp] theorem KC_car_61_3 : KC.car 61 3 = false := by kernel_rfl
@[simp] theorem KC_ann_66_3 : KC.ann 66 3 = some ([0, 1, 2, 9, 10, 11], [6]) := by kernel_rfl
@[simp] theorem KC_car_66_3 : KC.car 66 3 = false := by kernel_rfl
@[simp] theorem KC_ann_69_3 : KC.ann 69 3 = some ([0, 1, 7, 8], [4]) := by kernel_rfl
@[simp] theorem KC_car_69_3 : KC.car 69 3 = false := by kernel_rfl
@[simp] theorem KC_ann_72_4 : KC.ann 72 4 = some ([1, 2, 3, 11, 12, 13], [1, 2, 3]) := by kernel_rfl
@[simp] theorem KC_car_72_4 : KC.car 72 4 = false := by kernel_rfl
@[simp] theorem KC_ann_72_10 : KC.ann 72 10 = some ([2, 3, 36, 37, 38], [2, 3]) := by kernel_rfl
@[simp] theorem KC_car_72_10 : KC.car 72 10 = false := by kernel_rfl
@[simp] theorem KC_ann_73_4 : KC.ann 73 4 = some ([1, 2, 3, 6, 9], [3, 6, 7, 8]) := by kernel_rfl
@[simp] theorem KC_car_73_4 : KC.car 73 4 = false := by kernel_rfl
@[simp] theorem KC_ann_73_6 : KC.ann 73 6 = some ([1, 2, 3, 6, 9, 10], [1, 2, 3, 6, 9, 10]) := by kernel_rfl
@[simp] theorem KC_car_73_6 : KC.car 73 6 = false := by kernel_rfl
@[simp] theorem KC_ann_74_3 : KC.ann 74 3 = some ([1, 9, 10, 11], [1, 2]) := by kernel_rfl
@[simp] theorem KC_car_74_3 : KC.car 74 3 = false := by kernel_rfl
@[simp] theorem KC_ann_74_9 : KC.ann 74 9 = some ([1, 21, 22, 23], [2]) := by kernel_rfl
@[simp] theorem KC_car_74_9 : KC.car 74 9 = false := by kernel_rfl
@[simp] theorem KC_ann_82_12 : KC.ann 82 12 = some ([12, 16, 17, 51], [6, 7]) := by kernel_rfl
@[simp] theorem KC_car_82_12 : KC.car 82 12 = false := by kernel_rfl
@[simp] theorem KC_ann_85_3 : KC.ann 85 3 = some ([0, 1, 5], [4]) := by kernel_rfl
@[simp] theorem KC_car_85_3 : KC.car 85 3 = false := by kernel_rfl
@[simp] theorem KC_ann_85_6 : KC.ann 85 6 = some ([0, 1, 5, 6], [0, 1, 4, 5]) := by kernel_rfl
@[simp] theorem KC_car_85_6 : KC.car 85 6 = false := by kernel_rfl
@[simp] theorem KC_ann_88_5 : KC.ann 88 5 = some ([2, 4, 7, 8, 19, 20, 21], [4, 5, 6, 7]) := by kernel_rfl
@[simp] theorem KC_car_88_5 : KC.car 88 5 = false := by kernel_rfl
@[simp] theorem KC_ann_88_11 : KC.ann 88 11 = some ([2, 4, 7, 8, 9, 10, 11, 19, 20, 21, 35, 36, 37], [2, 4, 5, 6, 7, 8, 10, 11, 19, 20, 21]) := by kernel_rfl
@[simp] theorem KC_car_88_11 : KC.car 88 11 = false := by kernel_rfl
@[simp] theorem KC_ann_88_17 : KC.ann 88 17 = some ([2, 4, 7, 8, 10, 19, 20, 21, 47, 48, 49], [2, 4, 7, 8, 10, 19, 20, 21]) := by kernel_rfl
@[simp] theorem KC_car_88_17 : KC.car 88 17 = false := by kernel_rfl
@[simp] theorem KC_ann_89_11 : KC.ann 89 11 = some ([7, 8, 9], [7]) := by kernel_rfl
@[simp] theorem KC_car_89_11 : KC.car 89 11 = false := by kernel_rfl
@[simp] theorem KC_ann_90_5 : KC.ann 90 5 = some ([3, 8, 9], [8, 9]) := by kernel_rfl
@[simp] theorem KC_car_90_5 : KC.car 90 5 = false := by kernel_rfl
@[simp] theorem KC_ann_98_3 : KC.ann 98 3 = some ([1, 2, 4, 5], [2, 4, 5]) := by kernel_rfl
@[simp] theorem KC_car_98_3 : KC.car 98 3 = false := by kernel_rfl
@[simp] theorem KC_ann_103_3 : KC.ann 103 3 = some ([0, 1, 7, 8], [4]) := by kernel_rfl
@[simp] theorem KC_car_103_3 : KC.car 103 3 = false := by kernel_rfl
@[simp] theorem KC_ann_104_4 : KC.ann 104 4 = some ([1, 2, 4, 5], []) := by kernel_rfl
@[simp] theorem KC_car_104_4 : KC.car 104 4 = false := by kernel_rfl
@[simp] theorem KC_ann_104_8 : KC.ann 104 8 = some ([1, 2, 4, 5, 18, 19], [1, 2, 4, 5]) := by kernel_rfl
@[simp] theorem KC_car_104_8 : KC.car 104 8 = false := by kernel_rfl
@[simp] theorem KC_ann_104_13 : KC.ann 104 13 = some ([1, 2, 4, 5, 30], [1, 2, 4, 5]) := by kernel_rfl
@[simp] theorem KC_car_104_13 : KC.car 104 13 = false := by kernel_rfl
@[simp] theorem KC_ann_104_20 : KC.ann 104 20 = some ([1, 2, 4, 5, 8, 30, 47, 48], [1, 2, 4, 5, 30]) := by kernel_rfl
@[simp] theorem KC_car_104_20 : KC.car 104 20 = false := by kernel_rfl
@[simp] theorem KC_ann_104_26 : KC.ann 104 26 = some ([1, 2, 4, 5, 8, 30, 62, 63], [1, 2, 4, 5, 30]) := by kernel_rfl
@[simp] theorem KC_car_104_26 : KC.car 104 26 = false := by kernel_rfl
@[simp] theorem KC_ann_124_3 : KC.ann 124 3 = some ([0, 1, 2, 6, 7, 8], [0, 1, 2, 6, 7]) := by kernel_rfl
@[simp] theorem KC_car_124_3 : KC.car 124 3 = false := by kernel_rfl
@[simp] theorem KC_ann_124_8 : KC.ann 124 8 = some ([0, 1, 2, 6], []) := by kernel_rfl
@[simp] theorem KC_car_124_8 : KC.car 124 8 = false := by kernel_rfl
@[simp] theorem KC_ann_124_10 : KC.ann 124 10 = some ([0, 1, 2, 6, 7, 8], [0, 1, 2, 6, 7]) := by kernel_rfl
@[simp] theorem KC_car_124_10 : KC.car 124 10 = false := by kernel_rfl
@[simp] theorem KC_ann_129_2 : KC.ann 129 2 = some ([0, 1, 2, 3, 8], []) := by kernel_rfl
@[simp] theorem KC_car_129_2 : KC.car 129 2 = false := by kernel_rfl
@[simp] theorem KC_ann_129_5 : KC.ann 129 5 = some ([0, 1, 2, 3, 8, 9], [0, 1, 2, 3, 8]) := by kernel_rfl
@[simp] theorem KC_car_129_5 : KC.car 129 5 = false := by kernel_rfl
@[simp] theorem KC_ann_130_4 : KC.ann 130 4 = some ([0, 1, 4, 10, 11], [0, 1, 10]) := by kernel_rfl
@[simp] theorem KC_car_130_4 : KC.car 130 4 = false := by kernel_rfl
@[simp] theorem KC_ann_130_10 : KC.ann 130 10 = some ([0, 10, 13], []) := by kernel_rfl
@[simp] theorem KC_car_130_10 : KC.car 130 10 = false := by kernel_rfl
@[simp] theorem KC_ann_130_16 : KC.ann 130 16 = some ([0, 2, 4, 14, 15], [0, 2, 14]) := by kernel_rfl
@[simp] theorem KC_car_130_16 : KC.car 130 16 = false := by kernel_rfl
@[simp] theorem KC_ann_130_22 : KC.ann 130 22 = some ([0, 14, 17], []) := by kernel_rfl
@[simp] theorem KC_car_130_22 : KC.car 130 22 = false := by kernel_rfl
@[simp] theorem KC_ann_130_34 : KC.ann 130 34 = some ([0, 1, 2, 3, 4, 18, 19, 20, 21, 22], [0, 1, 2, 3, 4, 18, 19, 20]) := by kernel_rfl
@[simp] theorem KC_car_130_34 : KC.car 130 34 = false := by kernel_rfl
@[simp] theorem KC_ann_131_3 : KC.ann 131 3 = some ([0, 2, 4, 10, 11], [0, 2, 4, 10]) := by kernel_rfl
@[simp] theorem KC_car_131_3 : KC.car 131 3 = false := by kernel_rfl
@[simp] theorem KC_ann_132_2 : KC.ann 132 2 = some ([0, 1, 2, 3, 10], []) := by kernel_rfl
@[simp] theorem KC_car_132_2 : KC.car 132 2 = false := by kernel_rfl
@[simp] theorem KC_up_7_100 : KC.up 7 100 = .scopes 1 := by kernel_rfl
@[simp] theorem KC_up_8_42 : KC.up 8 42 = .scopes 0 := by kernel_rfl
@[simp] theorem KC_up_8_45 : KC.up 8 45 = .scopes 0 := by kernel_rfl
@[simp] theorem KC_up_8_49 : KC.up 8 49 = .scopes 0 := by kernel_rfl
@[simp] theorem KC_up_11_6 : KC.up 11 6 = .scopes 0 := by kernel_rfl
@[simp] theorem KC_up_11_10 : KC.up 11 10 = .scopes 0 := by kernel_rfl
@[simp] theorem KC_up_11_22 : KC.up 11 22 = .scopes 0 := by kernel_rfl
@[simp] theorem KC_up_12_62 : KC.up 12 62 = .box 7 := by kernel_rfl
@[simp] theorem KC_up_12_102 : KC.up 12 102 = .box 7 := by kernel_rfl
@[simp] theorem KC_up_12_140 : KC.up 12 140 = .box 7 := by kernel_rfl
@[simp] theorem KC_up_25_56 : KC.up 25 56 = .scopes 1 := by kernel_rfl
@[simp] theorem KC_up_29_10 : KC.up 29 10 = .scopes 0 := by kernel_rfl
@[simp] theorem KC_up_29_16 : KC.up 29 16 = .scopes 0 := by kernel_rfl
@[simp] theorem KC_up_31_5 : KC.up 31 5 = .scopes 0 := by kernel_rfl
@[simp] theorem KC_up_32_46 : KC.up 32 46 = .box 5 := by kernel_rfl
@[simp] theorem KC_up_32_83 : KC.up 32 83 = .box 5 := by kernel_rfl
@[simp] theorem KC_up_32_96 : KC.up 32 96 = .box 5 := by kernel_rfl
@[simp] theorem KC_up_33_22 : KC.up 33 22 = .box 3 := by kernel_rfl
@[simp] theorem KC_up_33_27 : KC.up 33 27 = .box 3 := by kernel_rfl
@[simp] theorem KC_up_33_53 : KC.up 33 53 = .box 3 := by kernel_rfl
@[simp] theorem KC_up_35_35 : KC.up 35 35 = .scopes 1 := by kernel_rfl
@[simp] theorem KC_up_35_52 : KC.up 35 52 = .scopes 1 := by kernel_rfl
@[simp] theorem KC_up_36_6 : KC.up 36 6 = .scopes 0 := by kernel_rfl
@[simp] theorem KC_up_36_10 : KC.up 36 10 = .scopes 0 := by kernel_rfl
@[simp] theorem KC_up_36_14 : KC.up 36 14 = .scopes 0 := by kernel_rfl
@[simp] theorem KC_up_51_8 : KC.up 51 8 = .box 1 := by kernel_rfl
@[simp] theorem KC_up_58_20 : KC.up 58 20 = .scopes 1 := by kernel_rfl
@[simp] theorem KC_up_59_26 : KC.up 59 26 = .scopes 1 := by kernel_rfl
@[simp] theorem KC_up_59_43 : KC.up 59 43 = .scopes 2 := by kernel_rfl
@[simp] theorem KC_up_59_58 : KC.up 59 58 = .scopes 3 := by kernel_rfl
@[simp] theorem KC_up_59_76 : KC.up 59 76 = .scopes 3 := by kernel_rfl
@[simp] theorem KC_up_64_61 : KC.up 64 61 = .box 5 := by kernel_rfl
@[simp] theorem KC_up_72_23 : KC.up 72 23 = .box 3 := by kernel_rfl
@[simp] theorem KC_up_72_31 : KC.up 72 31 = .box 3 := by kernel_rfl
@[simp] theorem KC_up_72_51 : KC.up 72 51 = .box 3 := by kernel_rfl
@[simp] theorem KC_up_75_7 : KC.up 75 7 = .scopes 0 := by kernel_rfl
@[simp] theorem KC_up_76_7 : KC.up 76 7 = .scopes 0 := by kernel_rfl
@[simp] theorem KC_up_77_7 : KC.up 77 7 = .scopes 0 := by kernel_rfl
@[simp] theorem KC_up_78_7 : KC.up 78 7 = .scopes 0 := by kernel_rfl
@[simp] theorem KC_up_79_7 : KC.up 79 7 = .scopes 0 := by kernel_rfl
@[simp] theorem KC_up_80_7 : KC.up 80 7 = .scopes 0 := by kernel_rfl
@[simp] theorem KC_up_93_64 : KC.up 93 64 = .scopes 0 := by kernel_rfl
@[simp] theorem KC_up_96_27 : KC.up 96 27 = .scopes 0 := by kernel_rfl
@[simp] theorem KC_up_96_35 : KC.up 96 35 = .scopes 0 := by kernel_rfl
@[simp] theorem KC_up_96_43 : KC.up 96 43 = .scopes 0 := by kernel_rfl
@[simp] theorem KC_up_96_53 : KC.up 96 53 = .scopes 0 := by kernel_rfl
@[simp] theorem KC_up_96_60 : KC.up 96 60 = .scopes 0 := by kernel_rfl
@[simp] theorem KC_up_102_26 : KC.up 102 26 = .scopes 0 := by kernel_rfl
@[simp] theorem need_3_9 : needT 3 9 = [(2, 1), (13, 12)] := by kernel_rfl
@[simp] theorem need_4_8 : needT 4 8 = [] := by kernel_rfl
@[simp] theorem need_5_4 : needT 5 4 = [] := by kernel_rfl
@[simp] theorem need_5_14 : needT 5 14 = [] := by kernel_rfl
@[simp] theorem need_6_7 : needT 6 7 = [] := by kernel_rfl
@[simp] theorem need_6_8 : needT 6 8 = [(19, 4)] := by kernel_rfl
@[simp] theorem need_7_15 : needT 7 15 = [(7, 1), (7, 4), (10, 1), (10, 4), (12, 1), (12, 4), (15, 4)] := by kernel_rfl
@[simp] theorem need_7_20 : needT 7 20 = [(2, 0), (4, 0)] := by kernel_rfl
@[simp] theorem need_7_25 : needT 7 25 = [(8, 4)] := by kernel_rfl
@[simp] theorem need_8_2 : needT 8 2 = [(8, 3), (8, 5), (11, 5)] := by kernel_rfl
@[simp] theorem need_8_4 : needT 8 4 = [(9, 4), (9, 7)] := by kernel_rfl
@[simp] theorem need_11_1 : needT 11 1 = [(6, 3)] := by kernel_rfl
@[simp] theorem need_11_2 : needT 11 2 = [(4, 2), (8, 2), (8, 5)] := by kernel_rfl
@[simp] theorem need_12_20 : needT 12 20 = [(4, 0)] := by kernel_rfl
@[simp] theorem need_12_34 : needT 12 34 = [(20, 4)] := by kernel_rfl
@[simp] theorem need_13_5 : needT 13 5 = [] := by kernel_rfl
@[simp] theorem need_15_11 : needT 15 11 = [] := by kernel_rfl
@[simp] theorem need_17_6 : needT 17 6 = [] := by kernel_rfl
@[simp] theorem need_17_11 : needT 17 11 = [] := by kernel_rfl
@[simp] theorem need_19_7 : needT 19 7 = [] := by kernel_rfl
@[simp] theorem need_21_6 : needT 21 6 = [] := by kernel_rfl
@[simp] theorem need_21_11 : needT 21 11 = [] := by kernel_rfl
@[simp] theorem need_23_6 : needT 23 6 = [] := by kernel_rfl
@[simp] theorem need_27_6 : needT 27 6 = [] := by kernel_rfl
@[simp] theorem need_29_2 : needT 29 2 = [(7, 5)] := by kernel_rfl
@[simp] theorem need_30_6 : needT 30 6 = [(4, 0), (8, 0)] := by kernel_rfl
@[simp] theorem need_32_6 : needT 32 6 = [(3, 1), (6, 3), (7, 3), (9, 3)] := by kernel_rfl
@[simp] theorem need_32_10 : needT 32 10 = [(6, 1), (11, 1), (11, 9), (13, 1), (13, 9)] := by kernel_rfl
@[simp] theorem need_33_5 : needT 33 5 = [(11, 9)] := by kernel_rfl
@[simp] theorem need_33_9 : needT 33 9 = [] := by kernel_rfl
@[simp] theorem need_35_6 : needT 35 6 = [] := by kernel_rfl
@[simp] theorem need_35_9 : needT 35 9 = [] := by kernel_rfl
@[simp] theorem need_36_1 : needT 36 1 = [(6, 3), (10, 3), (10, 7)] := by kernel_rfl
@[simp] theorem need_37_1 : needT 37 1 = [] := by kernel_rfl
@[simp] theorem need_37_6 : needT 37 6 = [(14, 7), (14, 9)] := by kernel_rfl
@[simp] theorem need_37_8 : needT 37 8 = [(17, 7)] := by kernel_rfl
@[simp] theorem need_37_10 : needT 37 10 = [(7, 1), (7, 3), (9, 7), (11, 7), (13, 7), (17, 9), (17, 11), (17, 13)] := by kernel_rfl
@[simp] theorem need_38_1 : needT 38 1 = [(3, 2), (4, 2)] := by kernel_rfl
@[simp] theorem need_44_1 : needT 44 1 = [] := by kernel_rfl
@[simp] theorem need_46_16 : needT 46 16 = [] := by kernel_rfl
@[simp] theorem need_47_14 : needT 47 14 = [] := by kernel_rfl
@[simp] theorem need_47_16 : needT 47 16 = [] := by kernel_rfl
@[simp] theorem need_47_23 : needT 47 23 = [] := by kernel_rfl
@[simp] theorem need_48_9 : needT 48 9 = [] := by kernel_rfl
@[simp] theorem need_48_16 : needT 48 16 = [] := by kernel_rfl
@[simp] theorem need_49_6 : needT 49 6 = [] := by kernel_rfl
@[simp] theorem need_50_1 : needT 50 1 = [(3, 1)] := by kernel_rfl
@[simp] theorem need_50_3 : needT 50 3 = [(4, 2), (4, 3)] := by kernel_rfl
@[simp] theorem need_51_1 : needT 51 1 = [(2, 0)] := by kernel_rfl
@[simp] theorem need_52_1 : needT 52 1 = [(6, 3), (10, 3), (10, 7)] := by kernel_rfl
@[simp] theorem need_55_1 : needT 55 1 = [(4, 2), (7, 2), (7, 5), (10, 2), (10, 5), (10, 8)] := by kernel_rfl
@[simp] theorem need_58_7 : needT 58 7 = [] := by kernel_rfl
@[simp] theorem need_60_1 : needT 60 1 = [] := by kernel_rfl
@[simp] theorem need_60_7 : needT 60 7 = [] := by kernel_rfl
@[simp] theorem need_60_9 : needT 60 9 = [] := by kernel_rfl
@[simp] theorem need_60_11 : needT 60 11 = [] := by kernel_rfl
@[simp] theorem need_60_15 : needT 60 15 = [] := by kernel_rfl
@[simp] theorem need_62_3 : needT 62 3 = [] := by kernel_rfl
@[simp] theorem need_62_4 : needT 62 4 = [] := by kernel_rfl
@[simp] theorem need_64_2 : needT 64 2 = [] := by kernel_rfl
@[simp] theorem need_64_6 : needT 64 6 = [] := by kernel_rfl
@[simp] theorem need_73_5 : needT 73 5 = [] := by kernel_rfl
@[simp] theorem need_73_7 : needT 73 7 = [] := by kernel_rfl
@[simp] theorem need_74_10 : needT 74 10 = [] := by kernel_rfl
@[simp] theorem need_82_1 : needT 82 1 = [(5, 3), (9, 3), (12, 5), (12, 9)] := by kernel_rfl
@[simp] theorem need_82_3 : needT 82 3 = [(2, 1), (3, 1)] := by kernel_rfl
@[simp] theorem need_83_1 : needT 83 1 = [] := by kernel_rfl
@[simp] theorem need_85_7 : needT 85 7 = [] := by kernel_rfl
@[simp] theorem need_88_20 : needT 88 20 = [(4, 2), (5, 2)] := by kernel_rfl
@[simp] theorem need_89_5 : needT 89 5 = [(6, 2)] := by kernel_rfl
@[simp] theorem need_91_1 : needT 91 1 = [] := by kernel_rfl
@[simp] theorem need_93_2 : needT 93 2 = [] := by kernel_rfl
@[simp] theorem need_93_10 : needT 93 10 = [(8, 5), (8, 6), (9, 8), (11, 5), (11, 6), (12, 8), (12, 11)] := by kernel_rfl
@[simp] theorem need_95_1 : needT 95 1 = [(4, 2), (5, 2)] := by kernel_rfl
@[simp] theorem need_96_4 : needT 96 4 = [] := by kernel_rfl
@[simp] theorem need_98_2 : needT 98 2 = [] := by kernel_rfl
@[simp] theorem need_98_4 : needT 98 4 = [(3, 1)] := by kernel_rfl
@[simp] theorem need_102_5 : needT 102 5 = [] := by kernel_rfl
@[simp] theorem need_106_1 : needT 106 1 = [] := by kernel_rfl
@[simp] theorem need_107_1 : needT 107 1 = [] := by kernel_rfl
@[simp] theorem need_108_1 : needT 108 1 = [] := by kernel_rfl
@[simp] theorem need_110_1 : needT 110 1 = [] := by kernel_rfl
@[simp] theorem need_111_1 : needT 111 1 = [] := by kernel_rfl
@[simp] theorem need_113_1 : needT 113 1 = [(5, 2), (8, 5), (10, 5), (12, 5)] := by kernel_rfl
@[simp] theorem need_113_2 : needT 113 2 = [] := by kernel_rfl
@[simp] theorem need_114_1 : needT 114 1 = [] := by kernel_rfl
@[simp] theorem need_115_1 : needT 115 1 = [(8, 2), (8, 4), (9, 8), (10, 8), (11, 2), (11, 4)] := by kernel_rfl
@[simp] theorem need_115_2 : needT 115 2 = [] := by kernel_rfl
@[simp] theorem need_116_1 : needT 116 1 = [(10, 7)] := by kernel_rfl
@[simp] theorem need_117_1 : needT 117 1 = [(5, 2)] := by kernel_rfl
@[simp] theorem need_118_1 : needT 118 1 = [(14, 11), (21, 18), (29, 26), (37, 34)] := by kernel_rfl
@[simp] theorem need_119_1 : needT 119 1 = [(5, 2)] := by kernel_rfl
@[simp] theorem need_119_2 : needT 119 2 = [(5, 2)] := by kernel_rfl
@[simp] theorem need_120_1 : needT 120 1 = [(8, 5)] := by kernel_rfl
@[simp] theorem need_121_1 : needT 121 1 = [(5, 2)] := by kernel_rfl
@[simp] theorem need_122_1 : needT 122 1 = [(8, 5)] := by kernel_rfl
@[simp] theorem need_123_1 : needT 123 1 = [(5, 2)] := by kernel_rfl
@[simp] theorem need_126_1 : needT 126 1 = [] := by kernel_rfl
@[simp] theorem need_129_4 : needT 129 4 = [] := by kernel_rfl
@[simp] theorem need_129_6 : needT 129 6 = [] := by kernel_rfl
@[simp] theorem need_130_5 : needT 130 5 = [] := by kernel_rfl
@[simp] theorem need_130_11 : needT 130 11 = [] := by kernel_rfl
@[simp] theorem need_130_17 : needT 130 17 = [] := by kernel_rfl
@[simp] theorem need_130_23 : needT 130 23 = [] := by kernel_rfl
@[simp] theorem need_130_35 : needT 130 35 = [] := by kernel_rfl
@[simp] theorem need_132_3 : needT 132 3 = [] := by kernel_rfl
@[simp] theorem KC_eqs {t : Nat} : KC.eqs t = eqsOf t := .trans rfl rfl
@[simp] theorem ty_keyK138 (x0 x1 : Int) : keyFitsK KC 138 (.agg [.int .i64 x0, .int .i64 x1]) = true := by kernel_rfl
end

@[simp] theorem ty_agg3 : tagg Try.prog 3 = some false := by kernel_rfl
@[simp] theorem ty_size3 : tsize Try.prog 3 = some 1 := by kernel_rfl
@[simp] theorem ty_zero3 : tzero Try.prog 3 = some (.pure (.int .i64 0)) := by kernel_rfl
@[simp] theorem ty_arr3 : tarrS Try.prog 3 = none := by kernel_rfl
@[simp] theorem ty_spread3 : spreads Try.prog (some 3) = false := by kernel_rfl
@[simp] theorem ty_und3 : Try.prog.underlying 3 = some (.int .i64) := by kernel_rfl
@[simp] theorem ty_key3 (n : Int) : keyFits Try.prog 3 (.int .i64 n) = true := by kernel_rfl
@[simp] theorem ty_agg4 : tagg Try.prog 4 = some false := by kernel_rfl
@[simp] theorem ty_size4 : tsize Try.prog 4 = some 1 := by kernel_rfl
@[simp] theorem ty_zero4 : tzero Try.prog 4 = some (.pure (.bool false)) := by kernel_rfl
@[simp] theorem ty_arr4 : tarrS Try.prog 4 = none := by kernel_rfl
@[simp] theorem ty_spread4 : spreads Try.prog (some 4) = false := by kernel_rfl
@[simp] theorem ty_und4 : Try.prog.underlying 4 = some .bool := by kernel_rfl
@[simp] theorem ty_agg22 : tagg Try.prog 22 = some false := by kernel_rfl
@[simp] theorem ty_size22 : tsize Try.prog 22 = some 1 := by kernel_rfl
@[simp] theorem ty_zero22 : tzero Try.prog 22 = some .nils := by kernel_rfl
@[simp] theorem ty_elem22 : telemS Try.prog 22 = some (some 2) := by kernel_rfl
@[simp] theorem ty_arr22 : tarrS Try.prog 22 = none := by kernel_rfl
@[simp] theorem ty_app22 : tapp Try.prog 22 = some ((some 2), (some 16), (some 2)) := by kernel_rfl
@[simp] theorem ty_lit22 : tlit Try.prog 22 = some ((some 2), (some [(.pure (.int .i64 0)), (.pure (.int .i64 0))])) := by kernel_rfl
@[simp] theorem ty_mk22 : tmk Try.prog 22 = some ((some 2), (some 16), (some [(.int .i64 0), (.int .i64 0)])) := by kernel_rfl
@[simp] theorem ty_spread22 : spreads Try.prog (some 22) = true := by kernel_rfl
@[simp] theorem ty_und22 : Try.prog.underlying 22 = some (.slice 85) := by kernel_rfl
@[simp] theorem ty_agg23 : tagg Try.prog 23 = some false := by kernel_rfl
@[simp] theorem ty_size23 : tsize Try.prog 23 = some 1 := by kernel_rfl
@[simp] theorem ty_zero23 : tzero Try.prog 23 = some .nils := by kernel_rfl
@[simp] theorem ty_elem23 : telemS Try.prog 23 = some (some 5) := by kernel_rfl
@[simp] theorem ty_arr23 : tarrS Try.prog 23 = none := by kernel_rfl
@[simp] theorem ty_app23 : tapp Try.prog 23 = some ((some 5), (some 40), (some 5)) := by kernel_rfl
@[simp] theorem ty_lit23 : tlit Try.prog 23 = some ((some 5), (some [(.pure (.int .i64 0)), (.pure (.int .i64 0)), (.pure (.int .i64 0)), (.pure (.int .i64 0)), (.pure (.bool false))])) := by kernel_rfl
@[simp] theorem ty_mk23 : tmk Try.prog 23 = some ((some 5), (some 40), (some [(.int .i64 0), (.int .i64 0), (.int .i64 0), (.int .i64 0), (.bool false)])) := by kernel_rfl
@[simp] theorem ty_spread23 : spreads Try.prog (some 23) = true := by kernel_rfl
@[simp] theorem ty_und23 : Try.prog.underlying 23 = some (.slice 57) := by kernel_rfl
@[simp] theorem ty_agg24 : tagg Try.prog 24 = some false := by kernel_rfl
@[simp] theorem ty_size24 : tsize Try.prog 24 = some 1 := by kernel_rfl
@[simp] theorem ty_zero24 : tzero Try.prog 24 = some .nils := by kernel_rfl
@[simp] theorem ty_elem24 : telemS Try.prog 24 = some (some 1) := by kernel_rfl
@[simp] theorem ty_arr24 : tarrS Try.prog 24 = none := by kernel_rfl
@[simp] theorem ty_app24 : tapp Try.prog 24 = some ((some 1), (some 8), (some 1)) := by kernel_rfl
@[simp] theorem ty_lit24 : tlit Try.prog 24 = some ((some 1), (some [(.pure (.int .i64 0))])) := by kernel_rfl
@[simp] theorem ty_mk24 : tmk Try.prog 24 = some ((some 1), (some 8), (some [(.int .i64 0)])) := by kernel_rfl
@[simp] theorem ty_spread24 : spreads Try.prog (some 24) = true := by kernel_rfl
@[simp] theorem ty_und24 : Try.prog.underlying 24 = some (.slice 3) := by kernel_rfl
@[simp] theorem ty_agg25 : tagg Try.prog 25 = some false := by kernel_rfl
@[simp] theorem ty_size25 : tsize Try.prog 25 = some 1 := by kernel_rfl
@[simp] theorem ty_zero25 : tzero Try.prog 25 = some .nils := by kernel_rfl
@[simp] theorem ty_elem25 : telemS Try.prog 25 = some (some 9) := by kernel_rfl
@[simp] theorem ty_arr25 : tarrS Try.prog 25 = none := by kernel_rfl
@[simp] theorem ty_app25 : tapp Try.prog 25 = some ((some 9), (some 72), (some 9)) := by kernel_rfl
@[simp] theorem ty_lit25 : tlit Try.prog 25 = some ((some 9), (some [(.pure (.int .i64 0)), (.pure (.int .i64 0)), (.pure (.int .i64 0)), (.pure (.int .i64 0)), (.pure (.int .i64 0)), (.pure (.int .i64 0)), (.pure (.int .i64 0)), (.pure (.int .i64 0)), (.pure (.int .i64 0))])) := by kernel_rfl
@[simp] theorem ty_mk25 : tmk Try.prog 25 = some ((some 9), (some 72), (some [(.int .i64 0), (.int .i64 0), (.int .i64 0), (.int .i64 0), (.int .i64 0), (.int .i64 0), (.int .i64 0), (.int .i64 0), (.int .i64 0)])) := by kernel_rfl
@[simp] theorem ty_spread25 : spreads Try.prog (some 25) = true := by kernel_rfl
@[simp] theorem ty_und25 : Try.prog.underlying 25 = some (.slice 29) := by kernel_rfl
@[simp] theorem ty_agg27 : tagg Try.prog 27 = some true := by kernel_rfl
@[simp] theorem ty_size27 : tsize Try.prog 27 = some 7 := by kernel_rfl
@[simp] theorem ty_zero27 : tzero Try.prog 27 = some (.agg [(.pure (.int .i64 0)), (.pure (.int .i64 0)), .nils, .nils, .nils, .nils, .nils]) := by kernel_rfl
@[simp] theorem ty_arr27 : tarrS Try.prog 27 = none := by kernel_rfl
@[simp] theorem ty_places27 : tplaces Try.prog 27 = some [(0, 1), (1, 1), (2, 1), (3, 1), (4, 1), (5, 1), (6, 1)] := by kernel_rfl
@[simp] theorem ty_spread27 : spreads Try.prog (some 27) = false := by kernel_rfl
@[simp] theorem ty_agg29 : tagg Try.prog 29 = some true := by kernel_rfl
@[simp] theorem ty_size29 : tsize Try.prog 29 = some 9 := by kernel_rfl
@[simp] theorem ty_zero29 : tzero Try.prog 29 = some (.pure (.agg [(.int .i64 0), (.int .i64 0), (.int .i64 0), (.int .i64 0), (.int .i64 0), (.int .i64 0), (.int .i64 0), (.int .i64 0), (.int .i64 0)])) := by kernel_rfl
@[simp] theorem ty_arr29 : tarrS Try.prog 29 = none := by kernel_rfl
@[simp] theorem ty_places29 : tplaces Try.prog 29 = some [(0, 1), (1, 1), (2, 1), (3, 1), (4, 1), (5, 1), (6, 1), (7, 1), (8, 1)] := by kernel_rfl
@[simp] theorem ty_spread29 : spreads Try.prog (some 29) = false := by kernel_rfl
@[simp] theorem ty_agg34 : tagg Try.prog 34 = some false := by kernel_rfl
@[simp] theorem ty_size34 : tsize Try.prog 34 = some 1 := by kernel_rfl
@[simp] theorem ty_zero34 : tzero Try.prog 34 = some (.pure .nilp) := by kernel_rfl
@[simp] theorem ty_arr34 : tarrS Try.prog 34 = none := by kernel_rfl
@[simp] theorem ty_spread34 : spreads Try.prog (some 34) = false := by kernel_rfl
@[simp] theorem ty_agg37 : tagg Try.prog 37 = some false := by kernel_rfl
@[simp] theorem ty_size37 : tsize Try.prog 37 = some 1 := by kernel_rfl
@[simp] theorem ty_zero37 : tzero Try.prog 37 = some (.pure (.int .i64 0)) := by kernel_rfl
@[simp] theorem ty_arr37 : tarrS Try.prog 37 = none := by kernel_rfl
@[simp] theorem ty_spread37 : spreads Try.prog (some 37) = false := by kernel_rfl
@[simp] theorem ty_und37 : Try.prog.underlying 37 = some (.int .i64) := by kernel_rfl
@[simp] theorem ty_key37 (n : Int) : keyFits Try.prog 37 (.int .i64 n) = true := by kernel_rfl
@[simp] theorem ty_agg41 : tagg Try.prog 41 = some false := by kernel_rfl
@[simp] theorem ty_size41 : tsize Try.prog 41 = some 1 := by kernel_rfl
@[simp] theorem ty_zero41 : tzero Try.prog 41 = some .nils := by kernel_rfl
@[simp] theorem ty_elem41 : telemS Try.prog 41 = some (some 3) := by kernel_rfl
@[simp] theorem ty_arr41 : tarrS Try.prog 41 = none := by kernel_rfl
@[simp] theorem ty_app41 : tapp Try.prog 41 = some ((some 3), (some 72), (some 3)) := by kernel_rfl
@[simp] theorem ty_lit41 : tlit Try.prog 41 = some ((some 3), (some [.nils, .nils, .nils])) := by kernel_rfl
@[simp] theorem ty_mk41 : tmk Try.prog 41 = some ((some 3), (some 72), (some [(.slice []), (.slice []), (.slice [])])) := by kernel_rfl
@[simp] theorem ty_spread41 : spreads Try.prog (some 41) = true := by kernel_rfl
@[simp] theorem ty_und41 : Try.prog.underlying 41 = some (.slice 48) := by kernel_rfl
@[simp] theorem ty_agg45 : tagg Try.prog 45 = some false := by kernel_rfl
@[simp] theorem ty_size45 : tsize Try.prog 45 = some 1 := by kernel_rfl
@[simp] theorem ty_zero45 : tzero Try.prog 45 = some .nils := by kernel_rfl
@[simp] theorem ty_elem45 : telemS Try.prog 45 = some (some 2) := by kernel_rfl
@[simp] theorem ty_arr45 : tarrS Try.prog 45 = none := by kernel_rfl
@[simp] theorem ty_app45 : tapp Try.prog 45 = some ((some 2), (some 16), (some 2)) := by kernel_rfl
@[simp] theorem ty_lit45 : tlit Try.prog 45 = some ((some 2), (some [(.pure (.int .i64 0)), (.pure (.int .i64 0))])) := by kernel_rfl
@[simp] theorem ty_mk45 : tmk Try.prog 45 = some ((some 2), (some 16), (some [(.int .i64 0), (.int .i64 0)])) := by kernel_rfl
@[simp] theorem ty_spread45 : spreads Try.prog (some 45) = true := by kernel_rfl
@[simp] theorem ty_und45 : Try.prog.underlying 45 = some (.slice 53) := by kernel_rfl
@[simp] theorem ty_agg46 : tagg Try.prog 46 = some false := by kernel_rfl
@[simp] theorem ty_size46 : tsize Try.prog 46 = some 1 := by kernel_rfl
@[simp] theorem ty_zero46 : tzero Try.prog 46 = some .nils := by kernel_rfl
@[simp] theorem ty_elem46 : telemS Try.prog 46 = some (some 2) := by kernel_rfl
@[simp] theorem ty_arr46 : tarrS Try.prog 46 = none := by kernel_rfl
@[simp] theorem ty_app46 : tapp Try.prog 46 = some ((some 2), (some 16), (some 2)) := by kernel_rfl
@[simp] theorem ty_lit46 : tlit Try.prog 46 = some ((some 2), (some [(.pure (.int .i64 0)), (.pure (.int .i64 0))])) := by kernel_rfl
@[simp] theorem ty_mk46 : tmk Try.prog 46 = some ((some 2), (some 16), (some [(.int .i64 0), (.int .i64 0)])) := by kernel_rfl
@[simp] theorem ty_spread46 : spreads Try.prog (some 46) = true := by kernel_rfl
@[simp] theorem ty_und46 : Try.prog.underlying 46 = some (.slice 55) := by kernel_rfl
@[simp] theorem ty_agg48 : tagg Try.prog 48 = some true := by kernel_rfl
@[simp] theorem ty_size48 : tsize Try.prog 48 = some 3 := by kernel_rfl
@[simp] theorem ty_zero48 : tzero Try.prog 48 = some (.agg [.nils, .nils, .nils]) := by kernel_rfl
@[simp] theorem ty_arr48 : tarrS Try.prog 48 = none := by kernel_rfl
@[simp] theorem ty_places48 : tplaces Try.prog 48 = some [(0, 1), (1, 1), (2, 1)] := by kernel_rfl
@[simp] theorem ty_spread48 : spreads Try.prog (some 48) = false := by kernel_rfl
@[simp] theorem ty_agg53 : tagg Try.prog 53 = some true := by kernel_rfl
@[simp] theorem ty_size53 : tsize Try.prog 53 = some 2 := by kernel_rfl
@[simp] theorem ty_zero53 : tzero Try.prog 53 = some (.pure (.agg [(.int .i64 0), (.int .i64 0)])) := by kernel_rfl
@[simp] theorem ty_arr53 : tarrS Try.prog 53 = some (2, (some 1), (some false)) := by kernel_rfl
@[simp] theorem ty_spread53 : spreads Try.prog (some 53) = false := by kernel_rfl
@[simp] theorem ty_und53 : Try.prog.underlying 53 = some (.array 2 3) := by kernel_rfl
@[simp] theorem ty_agg55 : tagg Try.prog 55 = some true := by kernel_rfl
@[simp] theorem ty_size55 : tsize Try.prog 55 = some 2 := by kernel_rfl
@[simp] theorem ty_zero55 : tzero Try.prog 55 = some (.pure (.agg [(.int .i64 0), (.int .i64 0)])) := by kernel_rfl
@[simp] theorem ty_arr55 : tarrS Try.prog 55 = none := by kernel_rfl
@[simp] theorem ty_places55 : tplaces Try.prog 55 = some [(0, 1), (1, 1)] := by kernel_rfl
@[simp] theorem ty_spread55 : spreads Try.prog (some 55) = false := by kernel_rfl
@[simp] theorem ty_agg57 : tagg Try.prog 57 = some true := by kernel_rfl
@[simp] theorem ty_size57 : tsize Try.prog 57 = some 5 := by kernel_rfl
@[simp] theorem ty_zero57 : tzero Try.prog 57 = some (.pure (.agg [(.int .i64 0), (.int .i64 0), (.int .i64 0), (.int .i64 0), (.bool false)])) := by kernel_rfl
@[simp] theorem ty_arr57 : tarrS Try.prog 57 = none := by kernel_rfl
@[simp] theorem ty_places57 : tplaces Try.prog 57 = some [(0, 1), (1, 1), (2, 1), (3, 1), (4, 1)] := by kernel_rfl
@[simp] theorem ty_spread57 : spreads Try.prog (some 57) = false := by kernel_rfl
@[simp] theorem ty_agg58 : tagg Try.prog 58 = some false := by kernel_rfl
@[simp] theorem ty_size58 : tsize Try.prog 58 = some 1 := by kernel_rfl
@[simp] theorem ty_zero58 : tzero Try.prog 58 = some (.pure .nilf) := by kernel_rfl
@[simp] theorem ty_arr58 : tarrS Try.prog 58 = none := by kernel_rfl
@[simp] theorem ty_spread58 : spreads Try.prog (some 58) = false := by kernel_rfl
@[simp] theorem ty_agg75 : tagg Try.prog 75 = some false := by kernel_rfl
@[simp] theorem ty_size75 : tsize Try.prog 75 = some 1 := by kernel_rfl
@[simp] theorem ty_zero75 : tzero Try.prog 75 = some (.pure (.int .u64 0)) := by kernel_rfl
@[simp] theorem ty_arr75 : tarrS Try.prog 75 = none := by kernel_rfl
@[simp] theorem ty_spread75 : spreads Try.prog (some 75) = false := by kernel_rfl
@[simp] theorem ty_und75 : Try.prog.underlying 75 = some (.int .u64) := by kernel_rfl
@[simp] theorem ty_key75 (n : Int) : keyFits Try.prog 75 (.int .u64 n) = true := by kernel_rfl
@[simp] theorem ty_agg77 : tagg Try.prog 77 = some true := by kernel_rfl
@[simp] theorem ty_size77 : tsize Try.prog 77 = some 1 := by kernel_rfl
@[simp] theorem ty_zero77 : tzero Try.prog 77 = some (.pure (.agg [(.int .u64 0)])) := by kernel_rfl
@[simp] theorem ty_arr77 : tarrS Try.prog 77 = none := by kernel_rfl
@[simp] theorem ty_places77 : tplaces Try.prog 77 = some [(0, 1)] := by kernel_rfl
@[simp] theorem ty_spread77 : spreads Try.prog (some 77) = false := by kernel_rfl
@[simp] theorem ty_agg81 : tagg Try.prog 81 = some false := by kernel_rfl
@[simp] theorem ty_size81 : tsize Try.prog 81 = some 1 := by kernel_rfl
@[simp] theorem ty_zero81 : tzero Try.prog 81 = some (.pure .nilf) := by kernel_rfl
@[simp] theorem ty_arr81 : tarrS Try.prog 81 = none := by kernel_rfl
@[simp] theorem ty_spread81 : spreads Try.prog (some 81) = false := by kernel_rfl
@[simp] theorem ty_agg85 : tagg Try.prog 85 = some true := by kernel_rfl
@[simp] theorem ty_size85 : tsize Try.prog 85 = some 2 := by kernel_rfl
@[simp] theorem ty_zero85 : tzero Try.prog 85 = some (.pure (.agg [(.int .i64 0), (.int .i64 0)])) := by kernel_rfl
@[simp] theorem ty_arr85 : tarrS Try.prog 85 = none := by kernel_rfl
@[simp] theorem ty_places85 : tplaces Try.prog 85 = some [(0, 1), (1, 1)] := by kernel_rfl
@[simp] theorem ty_spread85 : spreads Try.prog (some 85) = false := by kernel_rfl
@[simp] theorem ty_agg87 : tagg Try.prog 87 = some true := by kernel_rfl
@[simp] theorem ty_size87 : tsize Try.prog 87 = some 10 := by kernel_rfl
@[simp] theorem ty_zero87 : tzero Try.prog 87 = some (.agg [(.pure (.int .i64 0)), (.pure (.int .i64 0)), .nils, .nils, .nils, .nils, .nils, .nils, .nils, .nils]) := by kernel_rfl
@[simp] theorem ty_arr87 : tarrS Try.prog 87 = none := by kernel_rfl
@[simp] theorem ty_places87 : tplaces Try.prog 87 = some [(0, 7), (7, 3)] := by kernel_rfl
@[simp] theorem ty_spread87 : spreads Try.prog (some 87) = false := by kernel_rfl
@[simp] theorem ty_agg91 : tagg Try.prog 91 = some false := by kernel_rfl
@[simp] theorem ty_size91 : tsize Try.prog 91 = some 1 := by kernel_rfl
@[simp] theorem ty_zero91 : tzero Try.prog 91 = some (.pure .nilf) := by kernel_rfl
@[simp] theorem ty_arr91 : tarrS Try.prog 91 = none := by kernel_rfl
@[simp] theorem ty_spread91 : spreads Try.prog (some 91) = false := by kernel_rfl
@[simp] theorem ty_agg93 : tagg Try.prog 93 = some false := by kernel_rfl
@[simp] theorem ty_size93 : tsize Try.prog 93 = some 1 := by kernel_rfl
@[simp] theorem ty_zero93 : tzero Try.prog 93 = some (.pure (.int .u64 0)) := by kernel_rfl
@[simp] theorem ty_arr93 : tarrS Try.prog 93 = none := by kernel_rfl
@[simp] theorem ty_spread93 : spreads Try.prog (some 93) = false := by kernel_rfl
@[simp] theorem ty_und93 : Try.prog.underlying 93 = some (.int .u64) := by kernel_rfl
@[simp] theorem ty_key93 (n : Int) : keyFits Try.prog 93 (.int .u64 n) = true := by kernel_rfl
@[simp] theorem ty_agg95 : tagg Try.prog 95 = some false := by kernel_rfl
@[simp] theorem ty_size95 : tsize Try.prog 95 = some 1 := by kernel_rfl
@[simp] theorem ty_zero95 : tzero Try.prog 95 = some .nils := by kernel_rfl
@[simp] theorem ty_elem95 : telemS Try.prog 95 = some (some 1) := by kernel_rfl
@[simp] theorem ty_arr95 : tarrS Try.prog 95 = none := by kernel_rfl
@[simp] theorem ty_app95 : tapp Try.prog 95 = some ((some 1), (some 24), (some 1)) := by kernel_rfl
@[simp] theorem ty_lit95 : tlit Try.prog 95 = some ((some 1), (some [.nils])) := by kernel_rfl
@[simp] theorem ty_mk95 : tmk Try.prog 95 = some ((some 1), (some 24), (some [(.slice [])])) := by kernel_rfl
@[simp] theorem ty_spread95 : spreads Try.prog (some 95) = true := by kernel_rfl
@[simp] theorem ty_und95 : Try.prog.underlying 95 = some (.slice 25) := by kernel_rfl
@[simp] theorem ty_agg107 : tagg Try.prog 107 = some true := by kernel_rfl
@[simp] theorem ty_size107 : tsize Try.prog 107 = some 3 := by kernel_rfl
@[simp] theorem ty_zero107 : tzero Try.prog 107 = some (.agg [.nils, .nils, .nils]) := by kernel_rfl
@[simp] theorem ty_arr107 : tarrS Try.prog 107 = none := by kernel_rfl
@[simp] theorem ty_places107 : tplaces Try.prog 107 = some [(0, 1), (1, 1), (2, 1)] := by kernel_rfl
@[simp] theorem ty_spread107 : spreads Try.prog (some 107) = false := by kernel_rfl
@[simp] theorem ty_agg129 : tagg Try.prog 129 = some false := by kernel_rfl
@[simp] theorem ty_size129 : tsize Try.prog 129 = some 1 := by kernel_rfl
@[simp] theorem ty_zero129 : tzero Try.prog 129 = some (.pure .nilf) := by kernel_rfl
@[simp] theorem ty_arr129 : tarrS Try.prog 129 = none := by kernel_rfl
@[simp] theorem ty_spread129 : spreads Try.prog (some 129) = false := by kernel_rfl
@[simp] theorem ty_agg130 : tagg Try.prog 130 = some false := by kernel_rfl
@[simp] theorem ty_size130 : tsize Try.prog 130 = some 1 := by kernel_rfl
@[simp] theorem ty_zero130 : tzero Try.prog 130 = some (.pure .nilf) := by kernel_rfl
@[simp] theorem ty_arr130 : tarrS Try.prog 130 = none := by kernel_rfl
@[simp] theorem ty_spread130 : spreads Try.prog (some 130) = false := by kernel_rfl
@[simp] theorem ty_agg134 : tagg Try.prog 134 = some false := by kernel_rfl
@[simp] theorem ty_size134 : tsize Try.prog 134 = some 1 := by kernel_rfl
@[simp] theorem ty_zero134 : tzero Try.prog 134 = some (.pure .nilm) := by kernel_rfl
@[simp] theorem ty_arr134 : tarrS Try.prog 134 = none := by kernel_rfl
@[simp] theorem ty_mz134 : tmz Try.prog 134 = some (138, (some (.pure (.bool false)))) := by kernel_rfl
@[simp] theorem ty_map134 : tmap Try.prog 134 = some (138, 4) := by kernel_rfl
@[simp] theorem ty_spread134 : spreads Try.prog (some 134) = false := by kernel_rfl
@[simp] theorem ty_und134 : Try.prog.underlying 134 = some (.map 138 4) := by kernel_rfl
@[simp] theorem ty_agg135 : tagg Try.prog 135 = some false := by kernel_rfl
@[simp] theorem ty_size135 : tsize Try.prog 135 = some 1 := by kernel_rfl
@[simp] theorem ty_zero135 : tzero Try.prog 135 = some .nils := by kernel_rfl
@[simp] theorem ty_elem135 : telemS Try.prog 135 = some (some 2) := by kernel_rfl
@[simp] theorem ty_arr135 : tarrS Try.prog 135 = none := by kernel_rfl
@[simp] theorem ty_app135 : tapp Try.prog 135 = some ((some 2), (some 16), (some 2)) := by kernel_rfl
@[simp] theorem ty_lit135 : tlit Try.prog 135 = some ((some 2), (some [(.pure (.int .i64 0)), (.pure (.int .i64 0))])) := by kernel_rfl
@[simp] theorem ty_mk135 : tmk Try.prog 135 = some ((some 2), (some 16), (some [(.int .i64 0), (.int .i64 0)])) := by kernel_rfl
@[simp] theorem ty_spread135 : spreads Try.prog (some 135) = true := by kernel_rfl
@[simp] theorem ty_und135 : Try.prog.underlying 135 = some (.slice 138) := by kernel_rfl
@[simp] theorem ty_agg138 : tagg Try.prog 138 = some true := by kernel_rfl
@[simp] theorem ty_size138 : tsize Try.prog 138 = some 2 := by kernel_rfl
@[simp] theorem ty_zero138 : tzero Try.prog 138 = some (.pure (.agg [(.int .i64 0), (.int .i64 0)])) := by kernel_rfl
@[simp] theorem ty_arr138 : tarrS Try.prog 138 = none := by kernel_rfl
@[simp] theorem ty_places138 : tplaces Try.prog 138 = some [(0, 1), (1, 1)] := by kernel_rfl
@[simp] theorem ty_spread138 : spreads Try.prog (some 138) = false := by kernel_rfl
@[simp] theorem ty_agg142 : tagg Try.prog 142 = some true := by kernel_rfl
@[simp] theorem ty_size142 : tsize Try.prog 142 = some 2 := by kernel_rfl
@[simp] theorem ty_zero142 : tzero Try.prog 142 = some (.pure (.agg [.nilf, .nilf])) := by kernel_rfl
@[simp] theorem ty_arr142 : tarrS Try.prog 142 = none := by kernel_rfl
@[simp] theorem ty_places142 : tplaces Try.prog 142 = some [(0, 1), (1, 1)] := by kernel_rfl
@[simp] theorem ty_spread142 : spreads Try.prog (some 142) = false := by kernel_rfl
@[simp] theorem ty_agg146 : tagg Try.prog 146 = some false := by kernel_rfl
@[simp] theorem ty_size146 : tsize Try.prog 146 = some 1 := by kernel_rfl
@[simp] theorem ty_zero146 : tzero Try.prog 146 = some (.pure .nilf) := by kernel_rfl
@[simp] theorem ty_arr146 : tarrS Try.prog 146 = none := by kernel_rfl
@[simp] theorem ty_spread146 : spreads Try.prog (some 146) = false := by kernel_rfl
@[simp] theorem ty_agg151 : tagg Try.prog 151 = some true := by kernel_rfl
@[simp] theorem ty_size151 : tsize Try.prog 151 = some 18 := by kernel_rfl
@[simp] theorem ty_zero151 : tzero Try.prog 151 = some (.pure (.agg [.nilf, .nilf, .nilf, .nilf, .nilf, .nilf, .nilf, .nilf, .nilf, .nilf, .nilf, .nilf, .nilf, .nilf, .nilf, .nilf, .nilf, .nilf])) := by kernel_rfl
@[simp] theorem ty_arr151 : tarrS Try.prog 151 = some (9, (some 2), (some true)) := by kernel_rfl
@[simp] theorem ty_spread151 : spreads Try.prog (some 151) = false := by kernel_rfl
@[simp] theorem ty_und151 : Try.prog.underlying 151 = some (.array 9 142) := by kernel_rfl
@[simp] theorem ty_fs27_0 : tfs Try.prog 27 0 = some (0, (some 1)) := by kernel_rfl
@[simp] theorem ty_fa27_0 : tfa Try.prog 27 0 = some (0, (some false), (some 1)) := by kernel_rfl
@[simp] theorem ty_fs27_1 : tfs Try.prog 27 1 = some (1, (some 1)) := by kernel_rfl
@[simp] theorem ty_fa27_1 : tfa Try.prog 27 1 = some (1, (some false), (some 1)) := by kernel_rfl
@[simp] theorem ty_fs27_2 : tfs Try.prog 27 2 = some (2, (some 1)) := by kernel_rfl
@[simp] theorem ty_fa27_2 : tfa Try.prog 27 2 = some (2, (some false), (some 1)) := by kernel_rfl
@[simp] theorem ty_fs27_3 : tfs Try.prog 27 3 = some (3, (some 1)) := by kernel_rfl
@[simp] theorem ty_fa27_3 : tfa Try.prog 27 3 = some (3, (some false), (some 1)) := by kernel_rfl
@[simp] theorem ty_fs27_4 : tfs Try.prog 27 4 = some (4, (some 1)) := by kernel_rfl
@[simp] theorem ty_fa27_4 : tfa Try.prog 27 4 = some (4, (some false), (some 1)) := by kernel_rfl
@[simp] theorem ty_fs27_5 : tfs Try.prog 27 5 = some (5, (some 1)) := by kernel_rfl
@[simp] theorem ty_fa27_5 : tfa Try.prog 27 5 = some (5, (some false), (some 1)) := by kernel_rfl
@[simp] theorem ty_fs27_6 : tfs Try.prog 27 6 = some (6, (some 1)) := by kernel_rfl
@[simp] theorem ty_fa27_6 : tfa Try.prog 27 6 = some (6, (some false), (some 1)) := by kernel_rfl
@[simp] theorem ty_fs29_0 : tfs Try.prog 29 0 = some (0, (some 1)) := by kernel_rfl
@[simp] theorem ty_fa29_0 : tfa Try.prog 29 0 = some (0, (some false), (some 1)) := by kernel_rfl
@[simp] theorem ty_fs29_1 : tfs Try.prog 29 1 = some (1, (some 1)) := by kernel_rfl
@[simp] theorem ty_fa29_1 : tfa Try.prog 29 1 = some (1, (some false), (some 1)) := by kernel_rfl
@[simp] theorem ty_fs29_2 : tfs Try.prog 29 2 = some (2, (some 1)) := by kernel_rfl
@[simp] theorem ty_fa29_2 : tfa Try.prog 29 2 = some (2, (some false), (some 1)) := by kernel_rfl
@[simp] theorem ty_fs29_3 : tfs Try.prog 29 3 = some (3, (some 1)) := by kernel_rfl
@[simp] theorem ty_fa29_3 : tfa Try.prog 29 3 = some (3, (some false), (some 1)) := by kernel_rfl
@[simp] theorem ty_fs29_4 : tfs Try.prog 29 4 = some (4, (some 1)) := by kernel_rfl
@[simp] theorem ty_fa29_4 : tfa Try.prog 29 4 = some (4, (some false), (some 1)) := by kernel_rfl
@[simp] theorem ty_fs29_5 : tfs Try.prog 29 5 = some (5, (some 1)) := by kernel_rfl
@[simp] theorem ty_fa29_5 : tfa Try.prog 29 5 = some (5, (some false), (some 1)) := by kernel_rfl
@[simp] theorem ty_fs29_6 : tfs Try.prog 29 6 = some (6, (some 1)) := by kernel_rfl
@[simp] theorem ty_fa29_6 : tfa Try.prog 29 6 = some (6, (some false), (some 1)) := by kernel_rfl
@[simp] theorem ty_fs29_7 : tfs Try.prog 29 7 = some (7, (some 1)) := by kernel_rfl
@[simp] theorem ty_fa29_7 : tfa Try.prog 29 7 = some (7, (some false), (some 1)) := by kernel_rfl
@[simp] theorem ty_fs29_8 : tfs Try.prog 29 8 = some (8, (some 1)) := by kernel_rfl
@[simp] theorem ty_fa29_8 : tfa Try.prog 29 8 = some (8, (some false), (some 1)) := by kernel_rfl
@[simp] theorem ty_fs48_0 : tfs Try.prog 48 0 = some (0, (some 1)) := by kernel_rfl
@[simp] theorem ty_fa48_0 : tfa Try.prog 48 0 = some (0, (some false), (some 1)) := by kernel_rfl
@[simp] theorem ty_fs48_1 : tfs Try.prog 48 1 = some (1, (some 1)) := by kernel_rfl
@[simp] theorem ty_fa48_1 : tfa Try.prog 48 1 = some (1, (some false), (some 1)) := by kernel_rfl
@[simp] theorem ty_fs48_2 : tfs Try.prog 48 2 = some (2, (some 1)) := by kernel_rfl
@[simp] theorem ty_fa48_2 : tfa Try.prog 48 2 = some (2, (some false), (some 1)) := by kernel_rfl
@[simp] theorem ty_fs55_0 : tfs Try.prog 55 0 = some (0, (some 1)) := by kernel_rfl
@[simp] theorem ty_fa55_0 : tfa Try.prog 55 0 = some (0, (some false), (some 1)) := by kernel_rfl
@[simp] theorem ty_fs55_1 : tfs Try.prog 55 1 = some (1, (some 1)) := by kernel_rfl
@[simp] theorem ty_fa55_1 : tfa Try.prog 55 1 = some (1, (some false), (some 1)) := by kernel_rfl
@[simp] theorem ty_fs57_0 : tfs Try.prog 57 0 = some (0, (some 1)) := by kernel_rfl
@[simp] theorem ty_fa57_0 : tfa Try.prog 57 0 = some (0, (some false), (some 1)) := by kernel_rfl
@[simp] theorem ty_fs57_1 : tfs Try.prog 57 1 = some (1, (some 1)) := by kernel_rfl
@[simp] theorem ty_fa57_1 : tfa Try.prog 57 1 = some (1, (some false), (some 1)) := by kernel_rfl
@[simp] theorem ty_fs57_2 : tfs Try.prog 57 2 = some (2, (some 1)) := by kernel_rfl
@[simp] theorem ty_fa57_2 : tfa Try.prog 57 2 = some (2, (some false), (some 1)) := by kernel_rfl
@[simp] theorem ty_fs57_3 : tfs Try.prog 57 3 = some (3, (some 1)) := by kernel_rfl
@[simp] theorem ty_fa57_3 : tfa Try.prog 57 3 = some (3, (some false), (some 1)) := by kernel_rfl
@[simp] theorem ty_fs57_4 : tfs Try.prog 57 4 = some (4, (some 1)) := by kernel_rfl
@[simp] theorem ty_fa57_4 : tfa Try.prog 57 4 = some (4, (some false), (some 1)) := by kernel_rfl
@[simp] theorem ty_fs77_0 : tfs Try.prog 77 0 = some (0, (some 1)) := by kernel_rfl
@[simp] theorem ty_fa77_0 : tfa Try.prog 77 0 = some (0, (some false), (some 1)) := by kernel_rfl
@[simp] theorem ty_fs85_0 : tfs Try.prog 85 0 = some (0, (some 1)) := by kernel_rfl
@[simp] theorem ty_fa85_0 : tfa Try.prog 85 0 = some (0, (some false), (some 1)) := by kernel_rfl
@[simp] theorem ty_fs85_1 : tfs Try.prog 85 1 = some (1, (some 1)) := by kernel_rfl
@[simp] theorem ty_fa85_1 : tfa Try.prog 85 1 = some (1, (some false), (some 1)) := by kernel_rfl
@[simp] theorem ty_fs87_0 : tfs Try.prog 87 0 = some (0, (some 7)) := by kernel_rfl
@[simp] theorem ty_fa87_0 : tfa Try.prog 87 0 = some (0, (some true), (some 7)) := by kernel_rfl
@[simp] theorem ty_fs87_1 : tfs Try.prog 87 1 = some (7, (some 3)) := by kernel_rfl
@[simp] theorem ty_fa87_1 : tfa Try.prog 87 1 = some (7, (some true), (some 3)) := by kernel_rfl
@[simp] theorem ty_fs107_0 : tfs Try.prog 107 0 = some (0, (some 1)) := by kernel_rfl
@[simp] theorem ty_fa107_0 : tfa Try.prog 107 0 = some (0, (some false), (some 1)) := by kernel_rfl
@[simp] theorem ty_fs107_1 : tfs Try.prog 107 1 = some (1, (some 1)) := by kernel_rfl
@[simp] theorem ty_fa107_1 : tfa Try.prog 107 1 = some (1, (some false), (some 1)) := by kernel_rfl
@[simp] theorem ty_fs107_2 : tfs Try.prog 107 2 = some (2, (some 1)) := by kernel_rfl
@[simp] theorem ty_fa107_2 : tfa Try.prog 107 2 = some (2, (some false), (some 1)) := by kernel_rfl
@[simp] theorem ty_fs142_0 : tfs Try.prog 142 0 = some (0, (some 1)) := by kernel_rfl
@[simp] theorem ty_fa142_0 : tfa Try.prog 142 0 = some (0, (some false), (some 1)) := by kernel_rfl
@[simp] theorem ty_fs142_1 : tfs Try.prog 142 1 = some (1, (some 1)) := by kernel_rfl
@[simp] theorem ty_fa142_1 : tfa Try.prog 142 1 = some (1, (some false), (some 1)) := by kernel_rfl
attribute [simp] Try.results2 Try.ntmps2
attribute [simp] Try.results3 Try.ntmps3
attribute [simp] Try.results4 Try.ntmps4
attribute [simp] Try.results5 Try.ntmps5
attribute [simp] Try.results6 Try.ntmps6
attribute [simp] Try.results7 Try.ntmps7
attribute [simp] Try.results8 Try.ntmps8
attribute [simp] Try.results9 Try.ntmps9
attribute [simp] Try.results10 Try.ntmps10
attribute [simp] Try.results11 Try.ntmps11
attribute [simp] Try.results12 Try.ntmps12
attribute [simp] Try.results13 Try.ntmps13
attribute [simp] Try.results14 Try.ntmps14
attribute [simp] Try.results15 Try.ntmps15
attribute [simp] Try.results16 Try.ntmps16
attribute [simp] Try.results17 Try.ntmps17
attribute [simp] Try.results18 Try.ntmps18
attribute [simp] Try.results19 Try.ntmps19
attribute [simp] Try.results20 Try.ntmps20
attribute [simp] Try.results21 Try.ntmps21
attribute [simp] Try.results22 Try.ntmps22
attribute [simp] Try.results23 Try.ntmps23
attribute [simp] Try.results24 Try.ntmps24
attribute [simp] Try.results25 Try.ntmps25
attribute [simp] Try.results26 Try.ntmps26
attribute [simp] Try.results27 Try.ntmps27
attribute [simp] Try.results28 Try.ntmps28
attribute [simp] Try.results29 Try.ntmps29
attribute [simp] Try.results30 Try.ntmps30
attribute [simp] Try.results31 Try.ntmps31
attribute [simp] Try.results32 Try.ntmps32
attribute [simp] Try.results33 Try.ntmps33
attribute [simp] Try.results34 Try.ntmps34
attribute [simp] Try.results35 Try.ntmps35
attribute [simp] Try.results36 Try.ntmps36
attribute [simp] Try.results37 Try.ntmps37
attribute [simp] Try.results38 Try.ntmps38
attribute [simp] Try.results39 Try.ntmps39
attribute [simp] Try.results40 Try.ntmps40
attribute [simp] Try.results41 Try.ntmps41
attribute [simp] Try.results42 Try.ntmps42
attribute [simp] Try.results43 Try.ntmps43
attribute [simp] Try.results44 Try.ntmps44
attribute [simp] Try.results45 Try.ntmps45
attribute [simp] Try.results46 Try.ntmps46
attribute [simp] Try.results47 Try.ntmps47
attribute [simp] Try.results48 Try.ntmps48
attribute [simp] Try.results49 Try.ntmps49
attribute [simp] Try.results50 Try.ntmps50
attribute [simp] Try.results51 Try.ntmps51
attribute [simp] Try.results52 Try.ntmps52
attribute [simp] Try.results53 Try.ntmps53
attribute [simp] Try.results54 Try.ntmps54
attribute [simp] Try.results55 Try.ntmps55
attribute [simp] Try.results56 Try.ntmps56
attribute [simp] Try.results57 Try.ntmps57
attribute [simp] Try.results58 Try.ntmps58
attribute [simp] Try.results59 Try.ntmps59
attribute [simp] Try.results60 Try.ntmps60
attribute [simp] Try.results61 Try.ntmps61
attribute [simp] Try.results62 Try.ntmps62
attribute [simp] Try.results63 Try.ntmps63
attribute [simp] Try.results64 Try.ntmps64
attribute [simp] Try.results65 Try.ntmps65
attribute [simp] Try.results66 Try.ntmps66
attribute [simp] Try.results67 Try.ntmps67
attribute [simp] Try.results68 Try.ntmps68
attribute [simp] Try.results69 Try.ntmps69
attribute [simp] Try.results70 Try.ntmps70
attribute [simp] Try.results71 Try.ntmps71
attribute [simp] Try.results72 Try.ntmps72
attribute [simp] Try.results73 Try.ntmps73
attribute [simp] Try.results74 Try.ntmps74
attribute [simp] Try.results75 Try.ntmps75
attribute [simp] Try.results76 Try.ntmps76
attribute [simp] Try.results77 Try.ntmps77
attribute [simp] Try.results78 Try.ntmps78
attribute [simp] Try.results79 Try.ntmps79
attribute [simp] Try.results80 Try.ntmps80
attribute [simp] Try.results81 Try.ntmps81
attribute [simp] Try.results82 Try.ntmps82
attribute [simp] Try.results83 Try.ntmps83
attribute [simp] Try.results84 Try.ntmps84
attribute [simp] Try.results85 Try.ntmps85
attribute [simp] Try.results86 Try.ntmps86
attribute [simp] Try.results87 Try.ntmps87
attribute [simp] Try.results88 Try.ntmps88
attribute [simp] Try.results89 Try.ntmps89
attribute [simp] Try.results90 Try.ntmps90
attribute [simp] Try.results91 Try.ntmps91
attribute [simp] Try.results92 Try.ntmps92
attribute [simp] Try.results93 Try.ntmps93
attribute [simp] Try.results94 Try.ntmps94
attribute [simp] Try.results95 Try.ntmps95
attribute [simp] Try.results96 Try.ntmps96
attribute [simp] Try.results97 Try.ntmps97
attribute [simp] Try.results98 Try.ntmps98
attribute [simp] Try.results99 Try.ntmps99
attribute [simp] Try.results100 Try.ntmps100
attribute [simp] Try.results101 Try.ntmps101
attribute [simp] Try.results102 Try.ntmps102
attribute [simp] Try.results103 Try.ntmps103
attribute [simp] Try.results104 Try.ntmps104
attribute [simp] Try.results105 Try.ntmps105
attribute [simp] Try.results106 Try.ntmps106
attribute [simp] Try.results107 Try.ntmps107
attribute [simp] Try.results108 Try.ntmps108
attribute [simp] Try.results109 Try.ntmps109
attribute [simp] Try.results110 Try.ntmps110
attribute [simp] Try.results111 Try.ntmps111
attribute [simp] Try.results112 Try.ntmps112
attribute [simp] Try.results113 Try.ntmps113
attribute [simp] Try.results114 Try.ntmps114
attribute [simp] Try.results115 Try.ntmps115
attribute [simp] Try.results116 Try.ntmps116
attribute [simp] Try.results117 Try.ntmps117
attribute [simp] Try.results118 Try.ntmps118
attribute [simp] Try.results119 Try.ntmps119
attribute [simp] Try.results120 Try.ntmps120
attribute [simp] Try.results121 Try.ntmps121
attribute [simp] Try.results122 Try.ntmps122
attribute [simp] Try.results123 Try.ntmps123
attribute [simp] Try.results124 Try.ntmps124
attribute [simp] Try.results125 Try.ntmps125
attribute [simp] Try.results126 Try.ntmps126
attribute [simp] Try.results127 Try.ntmps127
attribute [simp] Try.results128 Try.ntmps128
attribute [simp] Try.results129 Try.ntmps129
attribute [simp] Try.results130 Try.ntmps130
attribute [simp] Try.results131 Try.ntmps131
attribute [simp] Try.results132 Try.ntmps132
end Go.Gh


/- The drawn regions of all functions may be walked in the text's order (made by program). -/
namespace Go.Gh
open Go.Proofs
theorem good3 : good KC needT 3 (Try.f3.body.getD .skip) = true := by kernel_rfl
theorem good4 : good KC needT 4 (Try.f4.body.getD .skip) = true := by kernel_rfl
theorem good5 : good KC needT 5 (Try.f5.body.getD .skip) = true := by kernel_rfl
theorem good6 : good KC needT 6 (Try.f6.body.getD .skip) = true := by kernel_rfl
theorem good7 : good KC needT 7 (Try.f7.body.getD .skip) = true := by kernel_rfl
theorem good8 : good KC needT 8 (Try.f8.body.getD .skip) = true := by kernel_rfl
theorem good9 : good KC needT 9 (Try.f9.body.getD .skip) = true := by kernel_rfl
theorem good10 : good KC needT 10 (Try.f10.body.getD .skip) = true := by kernel_rfl
theorem good11 : good KC needT 11 (Try.f11.body.getD .skip) = true := by kernel_rfl
theorem good12 : good KC needT 12 (Try.f12.body.getD .skip) = true := by kernel_rfl
theorem good13 : good KC needT 13 (Try.f13.body.getD .skip) = true := by kernel_rfl
theorem good14 : good KC needT 14 (Try.f14.body.getD .skip) = true := by kernel_rfl
theorem good15 : good KC needT 15 (Try.f15.body.getD .skip) = true := by kernel_rfl
theorem good16 : good KC needT 16 (Try.f16.body.getD .skip) = true := by kernel_rfl
theorem good17 : good KC needT 17 (Try.f17.body.getD .skip) = true := by kernel_rfl
theorem good18 : good KC needT 18 (Try.f18.body.getD .skip) = true := by kernel_rfl
theorem good19 : good KC needT 19 (Try.f19.body.getD .skip) = true := by kernel_rfl
theorem good20 : good KC needT 20 (Try.f20.body.getD .skip) = true := by kernel_rfl
theorem good21 : good KC needT 21 (Try.f21.body.getD .skip) = true := by kernel_rfl
theorem good22 : good KC needT 22 (Try.f22.body.getD .skip) = true := by kernel_rfl
theorem good23 : good KC needT 23 (Try.f23.body.getD .skip) = true := by kernel_rfl
theorem good24 : good KC needT 24 (Try.f24.body.getD .skip) = true := by kernel_rfl
theorem good25 : good KC needT 25 (Try.f25.body.getD .skip) = true := by kernel_rfl
theorem good26 : good KC needT 26 (Try.f26.body.getD .skip) = true := by kernel_rfl
theorem good27 : good KC needT 27 (Try.f27.body.getD .skip) = true := by kernel_rfl
theorem good28 : good KC needT 28 (Try.f28.body.getD .skip) = true := by kernel_rfl
theorem good29 : good KC needT 29 (Try.f29.body.getD .skip) = true := by kernel_rfl
theorem good30 : good KC needT 30 (Try.f30.body.getD .skip) = true := by kernel_rfl
theorem good31 : good KC needT 31 (Try.f31.body.getD .skip) = true := by kernel_rfl
theorem good32 : good KC needT 32 (Try.f32.body.getD .skip) = true := by kernel_rfl
theorem good33 : good KC needT 33 (Try.f33.body.getD .skip) = true := by kernel_rfl
theorem good34 : good KC needT 34 (Try.f34.body.getD .skip) = true := by kernel_rfl
theorem good35 : good KC needT 35 (Try.f35.body.getD .skip) = true := by kernel_rfl
theorem good36 : good KC needT 36 (Try.f36.body.getD .skip) = true := by kernel_rfl
theorem good37 : good KC needT 37 (Try.f37.body.getD .skip) = true := by kernel_rfl
theorem good38 : good KC needT 38 (Try.f38.body.getD .skip) = true := by kernel_rfl
theorem good39 : good KC needT 39 (Try.f39.body.getD .skip) = true := by kernel_rfl
theorem good40 : good KC needT 40 (Try.f40.body.getD .skip) = true := by kernel_rfl
theorem good41 : good KC needT 41 (Try.f41.body.getD .skip) = true := by kernel_rfl
theorem good42 : good KC needT 42 (Try.f42.body.getD .skip) = true := by kernel_rfl
theorem good43 : good KC needT 43 (Try.f43.body.getD .skip) = true := by kernel_rfl
theorem good44 : good KC needT 44 (Try.f44.body.getD .skip) = true := by kernel_rfl
theorem good45 : good KC needT 45 (Try.f45.body.getD .skip) = true := by kernel_rfl
theorem good46 : good KC needT 46 (Try.f46.body.getD .skip) = true := by kernel_rfl
theorem good47 : good KC needT 47 (Try.f47.body.getD .skip) = true := by kernel_rfl
theorem good48 : good KC needT 48 (Try.f48.body.getD .skip) = true := by kernel_rfl
theorem good49 : good KC needT 49 (Try.f49.body.getD .skip) = true := by kernel_rfl
theorem good50 : good KC needT 50 (Try.f50.body.getD .skip) = true := by kernel_rfl
theorem good51 : good KC needT 51 (Try.f51.body.getD .skip) = true := by kernel_rfl
theorem good52 : good KC needT 52 (Try.f52.body.getD .skip) = true := by kernel_rfl
theorem good53 : good KC needT 53 (Try.f53.body.getD .skip) = true := by kernel_rfl
theorem good54 : good KC needT 54 (Try.f54.body.getD .skip) = true := by kernel_rfl
theorem good55 : good KC needT 55 (Try.f55.body.getD .skip) = true := by kernel_rfl
theorem good56 : good KC needT 56 (Try.f56.body.getD .skip) = true := by kernel_rfl
theorem good57 : good KC needT 57 (Try.f57.body.getD .skip) = true := by kernel_rfl
theorem good58 : good KC needT 58 (Try.f58.body.getD .skip) = true := by kernel_rfl
theorem good59 : good KC needT 59 (Try.f59.body.getD .skip) = true := by kernel_rfl
theorem good60 : good KC needT 60 (Try.f60.body.getD .skip) = true := by kernel_rfl
theorem good61 : good KC needT 61 (Try.f61.body.getD .skip) = true := by kernel_rfl
theorem good62 : good KC needT 62 (Try.f62.body.getD .skip) = true := by kernel_rfl
theorem good63 : good KC needT 63 (Try.f63.body.getD .skip) = true := by kernel_rfl
theorem good64 : good KC needT 64 (Try.f64.body.getD .skip) = true := by kernel_rfl
theorem good65 : good KC needT 65 (Try.f65.body.getD .skip) = true := by kernel_rfl
theorem good66 : good KC needT 66 (Try.f66.body.getD .skip) = true := by kernel_rfl
theorem good67 : good KC needT 67 (Try.f67.body.getD .skip) = true := by kernel_rfl
theorem good68 : good KC needT 68 (Try.f68.body.getD .skip) = true := by kernel_rfl
theorem good69 : good KC needT 69 (Try.f69.body.getD .skip) = true := by kernel_rfl
theorem good70 : good KC needT 70 (Try.f70.body.getD .skip) = true := by kernel_rfl
theorem good71 : good KC needT 71 (Try.f71.body.getD .skip) = true := by kernel_rfl
theorem good72 : good KC needT 72 (Try.f72.body.getD .skip) = true := by kernel_rfl
theorem good73 : good KC needT 73 (Try.f73.body.getD .skip) = true := by kernel_rfl
theorem good74 : good KC needT 74 (Try.f74.body.getD .skip) = true := by kernel_rfl
theorem good75 : good KC needT 75 (Try.f75.body.getD .skip) = true := by kernel_rfl
theorem good76 : good KC needT 76 (Try.f76.body.getD .skip) = true := by kernel_rfl
theorem good77 : good KC needT 77 (Try.f77.body.getD .skip) = true := by kernel_rfl
theorem good78 : good KC needT 78 (Try.f78.body.getD .skip) = true := by kernel_rfl
theorem good79 : good KC needT 79 (Try.f79.body.getD .skip) = true := by kernel_rfl
theorem good80 : good KC needT 80 (Try.f80.body.getD .skip) = true := by kernel_rfl
theorem good81 : good KC needT 81 (Try.f81.body.getD .skip) = true := by kernel_rfl
theorem good82 : good KC needT 82 (Try.f82.body.getD .skip) = true := by kernel_rfl
theorem good83 : good KC needT 83 (Try.f83.body.getD .skip) = true := by kernel_rfl
theorem good84 : good KC needT 84 (Try.f84.body.getD .skip) = true := by kernel_rfl
theorem good85 : good KC needT 85 (Try.f85.body.getD .skip) = true := by kernel_rfl
theorem good86 : good KC needT 86 (Try.f86.body.getD .skip) = true := by kernel_rfl
theorem good87 : good KC needT 87 (Try.f87.body.getD .skip) = true := by kernel_rfl
theorem good88 : good KC needT 88 (Try.f88.body.getD .skip) = true := by kernel_rfl
theorem good89 : good KC needT 89 (Try.f89.body.getD .skip) = true := by kernel_rfl
theorem good90 : good KC needT 90 (Try.f90.body.getD .skip) = true := by kernel_rfl
theorem good91 : good KC needT 91 (Try.f91.body.getD .skip) = true := by kernel_rfl
theorem good92 : good KC needT 92 (Try.f92.body.getD .skip) = true := by kernel_rfl
theorem good93 : good KC needT 93 (Try.f93.body.getD .skip) = true := by kernel_rfl
theorem good94 : good KC needT 94 (Try.f94.body.getD .skip) = true := by kernel_rfl
theorem good95 : good KC needT 95 (Try.f95.body.getD .skip) = true := by kernel_rfl
theorem good96 : good KC needT 96 (Try.f96.body.getD .skip) = true := by kernel_rfl
theorem good97 : good KC needT 97 (Try.f97.body.getD .skip) = true := by kernel_rfl
theorem good98 : good KC needT 98 (Try.f98.body.getD .skip) = true := by kernel_rfl
theorem good99 : good KC needT 99 (Try.f99.body.getD .skip) = true := by kernel_rfl
theorem good100 : good KC needT 100 (Try.f100.body.getD .skip) = true := by kernel_rfl
theorem good101 : good KC needT 101 (Try.f101.body.getD .skip) = true := by kernel_rfl
theorem good102 : good KC needT 102 (Try.f102.body.getD .skip) = true := by kernel_rfl
theorem good103 : good KC needT 103 (Try.f103.body.getD .skip) = true := by kernel_rfl
theorem good104 : good KC needT 104 (Try.f104.body.getD .skip) = true := by kernel_rfl
theorem good105 : good KC needT 105 (Try.f105.body.getD .skip) = true := by kernel_rfl
theorem good106 : good KC needT 106 (Try.f106.body.getD .skip) = true := by kernel_rfl
theorem good107 : good KC needT 107 (Try.f107.body.getD .skip) = true := by kernel_rfl
theorem good108 : good KC needT 108 (Try.f108.body.getD .skip) = true := by kernel_rfl
theorem good109 : good KC needT 109 (Try.f109.body.getD .skip) = true := by kernel_rfl
theorem good110 : good KC needT 110 (Try.f110.body.getD .skip) = true := by kernel_rfl
theorem good111 : good KC needT 111 (Try.f111.body.getD .skip) = true := by kernel_rfl
theorem good112 : good KC needT 112 (Try.f112.body.getD .skip) = true := by kernel_rfl
theorem good113 : good KC needT 113 (Try.f113.body.getD .skip) = true := by kernel_rfl
theorem good114 : good KC needT 114 (Try.f114.body.getD .skip) = true := by kernel_rfl
theorem good115 : good KC needT 115 (Try.f115.body.getD .skip) = true := by kernel_rfl
theorem good116 : good KC needT 116 (Try.f116.body.getD .skip) = true := by kernel_rfl
theorem good117 : good KC needT 117 (Try.f117.body.getD .skip) = true := by kernel_rfl
theorem good118 : good KC needT 118 (Try.f118.body.getD .skip) = true := by kernel_rfl
theorem good119 : good KC needT 119 (Try.f119.body.getD .skip) = true := by kernel_rfl
theorem good120 : good KC needT 120 (Try.f120.body.getD .skip) = true := by kernel_rfl
theorem good121 : good KC needT 121 (Try.f121.body.getD .skip) = true := by kernel_rfl
theorem good122 : good KC needT 122 (Try.f122.body.getD .skip) = true := by kernel_rfl
theorem good123 : good KC needT 123 (Try.f123.body.getD .skip) = true := by kernel_rfl
theorem good124 : good KC needT 124 (Try.f124.body.getD .skip) = true := by kernel_rfl
theorem good125 : good KC needT 125 (Try.f125.body.getD .skip) = true := by kernel_rfl
theorem good126 : good KC needT 126 (Try.f126.body.getD .skip) = true := by kernel_rfl
theorem good127 : good KC needT 127 (Try.f127.body.getD .skip) = true := by kernel_rfl
theorem good128 : good KC needT 128 (Try.f128.body.getD .skip) = true := by kernel_rfl
theorem good129 : good KC needT 129 (Try.f129.body.getD .skip) = true := by kernel_rfl
theorem good130 : good KC needT 130 (Try.f130.body.getD .skip) = true := by kernel_rfl
theorem good131 : good KC needT 131 (Try.f131.body.getD .skip) = true := by kernel_rfl
theorem good132 : good KC needT 132 (Try.f132.body.getD .skip) = true := by kernel_rfl
end Go.Gh
