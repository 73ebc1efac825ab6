/- The context of a seat: annotations of its functions, facts on its types (made by program). -/
import Derived.Test.YtkcmcjohoockcaaGw
import Derived.Test.YtkcmcjohoockcaaProg
import Derived.KernelRfl
namespace Go.Gh
open Go.Proofs
set_option linter.unusedSimpArgs false
set_option linter.unusedVariables false
def annT : List (Nat × Nat × List Nat × List Nat) := [(4, 7, [3, 4, 6], [2]), (5, 8, [3, 4, 9], [2, 3, 4]), (5, 13, [3, 4, 10], [2]), (6, 6, [3, 4, 5, 6], [4, 5]), (7, 9, [3, 4, 5, 6, 7, 8, 9, 10, 11], [3, 4, 5, 6, 7, 8, 9, 10]), (7, 13, [3, 4, 5, 6, 7, 8, 9, 10, 12], [3, 4, 5, 6, 7, 8, 9]), (7, 24, [7, 8, 9, 15, 16, 17, 18, 19, 20], [7, 8, 9, 15, 16, 17, 18, 19]), (12, 6, [0, 6, 7, 8, 9, 10], [6, 7, 8, 9]), (12, 23, [6, 7, 8, 9, 18], [6, 7, 8]), (12, 26, [6, 7, 8, 9, 18, 19], [6, 7, 8, 9, 18]), (12, 33, [6, 7, 8, 21], [6, 7]), (13, 4, [0, 3, 4], [3]), (15, 8, [1, 17, 18, 19], [2]), (17, 5, [2, 3, 5], [2, 3, 4]), (17, 10, [2, 3, 6], [4]), (19, 6, [2, 3, 5, 6], [2, 3, 4, 5]), (19, 11, [2, 3, 5, 6, 7], [2, 3, 4, 5, 6]), (19, 19, [2, 3, 5, 9], [4]), (21, 5, [2, 3, 5], [2, 3, 4]), (21, 10, [2, 3, 6], [4]), (23, 5, [0, 1, 5], [4]), (25, 9, [1, 2, 3, 6, 9, 28, 29, 30], [3, 6, 9]), (27, 5, [0, 1, 5], [4]), (30, 5, [1, 2, 3, 4], [0]), (32, 5, [0, 4, 5, 6, 7], [0, 4, 5]), (32, 9, [0, 4, 5, 8], [0, 4, 5]), (32, 16, [0, 4, 5, 10], [4, 5]), (33, 4, [1, 2, 3, 4], [1, 2, 3]), (33, 8, [1, 2, 3, 5], [2, 3]), (35, 5, [0, 5, 6, 8, 10, 11, 12], [0, 8, 10]), (40, 10, [1, 30, 31, 32], [1, 2]), (40, 17, [1, 4, 30, 31, 32, 51, 52, 53], [1, 2, 30, 31, 32]), (40, 26, [1, 69, 70, 71], [1, 2]), (46, 7, [1, 3], [2]), (46, 15, [1, 3, 4, 5], [1, 2, 3]), (47, 5, [1, 3], [1, 2]), (47, 13, [1, 5], [1, 2]), (47, 20, [1, 6], [2]), (48, 5, [1, 3], [2]), (48, 15, [1, 3, 4, 5], [1, 2, 3, 4]), (49, 5, [0, 1, 5], [4]), (53, 3, [0, 1, 5], [4]), (57, 6, [1, 24, 25], [2, 3, 4]), (57, 9, [1, 8, 24, 25, 29, 30, 31], [1, 2, 3, 4, 24, 25]), (58, 4, [0, 1, 5, 6], [5]), (59, 4, [1, 2, 5, 6], [1, 2, 5]), (59, 8, [1, 2, 5, 7], [5]), (59, 11, [1, 2, 5, 7, 8], [1, 2, 5, 7]), (59, 18, [1, 2, 5, 7, 8, 9, 10], [1, 2, 5, 7, 8]), (59, 24, [1, 2, 5, 7, 8, 9, 11], [1, 2, 5, 7, 8]), (60, 6, [3, 4, 5, 9], [3, 4, 5, 6]), (61, 3, [1, 2, 5], [4]), (66, 3, [0, 1, 2, 9, 10, 11], [6]), (69, 3, [0, 1, 7, 8], [4]), (72, 4, [1, 2, 3, 11, 12, 13], [1, 2, 3]), (72, 10, [2, 3, 36, 37, 38], [2, 3]), (73, 4, [1, 2, 3, 6, 9], [3, 6, 7, 8]), (73, 6, [1, 2, 3, 6, 9, 10], [1, 2, 3, 6, 9, 10]), (74, 3, [1, 9, 10, 11], [1, 2]), (74, 9, [1, 21, 22, 23], [2]), (82, 12, [12, 16, 17, 51], [6, 7]), (85, 3, [0, 1, 5], [4]), (85, 6, [0, 1, 5, 6], [0, 1, 4, 5]), (88, 5, [2, 4, 7, 8, 19, 20, 21], [4, 5, 6, 7]), (88, 11, [2, 4, 7, 8, 9, 10, 11, 19, 20, 21, 35, 36, 37], [2, 4, 5, 6, 7, 8, 10, 11, 19, 20, 21]), (88, 17, [2, 4, 7, 8, 10, 19, 20, 21, 47, 48, 49], [2, 4, 7, 8, 10, 19, 20, 21]), (89, 11, [7, 8, 9], [7]), (90, 5, [3, 8, 9], [8, 9]), (98, 3, [1, 2, 4, 5], [2, 4, 5]), (103, 3, [0, 1, 7, 8], [4]), (104, 4, [1, 2, 4, 5], []), (104, 8, [1, 2, 4, 5, 18, 19], [1, 2, 4, 5]), (104, 13, [1, 2, 4, 5, 30], [1, 2, 4, 5]), (104, 20, [1, 2, 4, 5, 8, 30, 47, 48], [1, 2, 4, 5, 30]), (104, 26, [1, 2, 4, 5, 8, 30, 62, 63], [1, 2, 4, 5, 30]), (124, 3, [0, 1, 2, 6, 7, 8], [0, 1, 2, 6, 7]), (124, 8, [0, 1, 2, 6], []), (124, 10, [0, 1, 2, 6, 7, 8], [0, 1, 2, 6, 7]), (129, 2, [0, 1, 2, 3, 8], []), (129, 5, [0, 1, 2, 3, 8, 9], [0, 1, 2, 3, 8]), (130, 4, [0, 1, 4, 10, 11], [0, 1, 10]), (130, 10, [0, 10, 13], []), (130, 16, [0, 2, 4, 14, 15], [0, 2, 14]), (130, 22, [0, 14, 17], []), (130, 34, [0, 1, 2, 3, 4, 18, 19, 20, 21, 22], [0, 1, 2, 3, 4, 18, 19, 20]), (131, 3, [0, 2, 4, 10, 11], [0, 2, 4, 10]), (132, 2, [0, 1, 2, 3, 10], [])]
def upT : List (Nat × Nat × Up) := [(7, 100, .scopes 1), (8, 42, .scopes 0), (8, 45, .scopes 0), (8, 49, .scopes 0), (11, 6, .scopes 0), (11, 10, .scopes 0), (11, 22, .scopes 0), (12, 62, .box 7), (12, 102, .box 7), (12, 140, .box 7), (25, 56, .scopes 1), (29, 10, .scopes 0), (29, 16, .scopes 0), (31, 5, .scopes 0), (32, 46, .box 5), (32, 83, .box 5), (32, 96, .box 5), (33, 22, .box 3), (33, 27, .box 3), (33, 53, .box 3), (35, 35, .scopes 1), (35, 52, .scopes 1), (36, 6, .scopes 0), (36, 10, .scopes 0), (36, 14, .scopes 0), (51, 8, .box 1), (58, 20, .scopes 1), (59, 26, .scopes 1), (59, 43, .scopes 2), (59, 58, .scopes 3), (59, 76, .scopes 3), (64, 61, .box 5), (72, 23, .box 3), (72, 31, .box 3), (72, 51, .box 3), (75, 7, .scopes 0), (76, 7, .scopes 0), (77, 7, .scopes 0), (78, 7, .scopes 0), (79, 7, .scopes 0), (80, 7, .scopes 0), (93, 64, .scopes 0), (96, 27, .scopes 0), (96, 35, .scopes 0), (96, 43, .scopes 0), (96, 53, .scopes 0), (96, 60, .scopes 0), (102, 26, .scopes 0)]
def annOf (f r : Nat) : Option (List Nat × List Nat) := (annT.find? fun x => x.1 == f && x.2.1 == r).map fun x => x.2.2
def upOf (f d : Nat) : Up := ((upT.find? fun x => x.1 == f && x.2.1 == d).map fun x => x.2.2).getD (.scopes 0)
def needL : List (Nat × Nat × List (Nat × Nat)) := [(3, 9, [(2, 1), (13, 12)]), (6, 8, [(19, 4)]), (7, 15, [(7, 1), (7, 4), (10, 1), (10, 4), (12, 1), (12, 4), (15, 4)]), (7, 20, [(2, 0), (4, 0)]), (7, 25, [(8, 4)]), (8, 2, [(8, 3), (8, 5), (11, 5)]), (8, 4, [(9, 4), (9, 7)]), (11, 1, [(6, 3)]), (11, 2, [(4, 2), (8, 2), (8, 5)]), (12, 20, [(4, 0)]), (12, 34, [(20, 4)]), (29, 2, [(7, 5)]), (30, 6, [(4, 0), (8, 0)]), (32, 6, [(3, 1), (6, 3), (7, 3), (9, 3)]), (32, 10, [(6, 1), (11, 1), (11, 9), (13, 1), (13, 9)]), (33, 5, [(11, 9)]), (36, 1, [(6, 3), (10, 3), (10, 7)]), (37, 6, [(14, 7), (14, 9)]), (37, 8, [(17, 7)]), (37, 10, [(7, 1), (7, 3), (9, 7), (11, 7), (13, 7), (17, 9), (17, 11), (17, 13)]), (38, 1, [(3, 2), (4, 2)]), (50, 1, [(3, 1)]), (50, 3, [(4, 2), (4, 3)]), (51, 1, [(2, 0)]), (52, 1, [(6, 3), (10, 3), (10, 7)]), (55, 1, [(4, 2), (7, 2), (7, 5), (10, 2), (10, 5), (10, 8)]), (82, 1, [(5, 3), (9, 3), (12, 5), (12, 9)]), (82, 3, [(2, 1), (3, 1)]), (88, 20, [(4, 2), (5, 2)]), (89, 5, [(6, 2)]), (93, 10, [(8, 5), (8, 6), (9, 8), (11, 5), (11, 6), (12, 8), (12, 11)]), (95, 1, [(4, 2), (5, 2)]), (98, 4, [(3, 1)]), (113, 1, [(5, 2), (8, 5), (10, 5), (12, 5)]), (115, 1, [(8, 2), (8, 4), (9, 8), (10, 8), (11, 2), (11, 4)]), (116, 1, [(10, 7)]), (117, 1, [(5, 2)]), (118, 1, [(14, 11), (21, 18), (29, 26), (37, 34)]), (119, 1, [(5, 2)]), (119, 2, [(5, 2)]), (120, 1, [(8, 5)]), (121, 1, [(5, 2)]), (122, 1, [(8, 5)]), (123, 1, [(5, 2)])]
def needT (f r : Nat) : List (Nat × Nat) := ((needL.find? fun x => x.1 == f && x.2.1 == r).map fun x => x.2.2).getD []
def eqsOf : Nat → Option (List SK)
  | 29 => some [.int .i64, .int .i64, .int .i64, .int .i64, .int .i64, .int .i64, .int .i64, .int .i64, .int .i64]
  | 53 => some [.int .i64, .int .i64]
  | 55 => some [.int .i64, .int .i64]
  | 57 => some [.int .i64, .int .i64, .int .i64, .int .i64, .bool]
  | 85 => some [.int .i64, .int .i64]
  | 138 => some [.int .i64, .int .i64]
  | _ => none
@[simp] theorem eqsOf_29 : eqsOf 29 = some [.int .i64, .int .i64, .int .i64, .int .i64, .int .i64, .int .i64, .int .i64, .int .i64, .int .i64] := .trans rfl rfl
@[simp] theorem eqsOf_57 : eqsOf 57 = some [.int .i64, .int .i64, .int .i64, .int .i64, .bool] := .trans rfl rfl
@[simp] theorem eqsOf_85 : eqsOf 85 = some [.int .i64, .int .i64] := .trans rfl rfl
def keepL : List Nat := [11, 12, 13, 32, 33, 36, 52, 72, 55, 25, 28, 29, 75, 76, 77, 78, 79, 80]
def frzL : List Nat := [18, 20, 56, 59, 64, 96, 82, 73, 50, 88]
def borL : List Nat := [25, 33, 55, 9, 14, 15, 16, 17, 19, 21, 23, 27, 35, 38, 40, 41, 44, 45, 46, 47, 48, 49, 53, 57, 60, 61, 63, 65, 70, 71, 74, 92, 81, 83, 84, 85, 86, 87, 90, 95, 106, 107, 108, 110, 112, 114, 116, 118, 120, 122, 103, 126, 127, 128]
def clnL : List Nat := [75, 76, 77, 78, 79, 80]
def ownL : List (Nat × Nat) := [(96, 9), (64, 10), (28, 3), (28, 6), (28, 7), (28, 8), (28, 14)]
def carL : List (Nat × Nat) := [(12, 6)]
def liftOf (f d : Nat) : Option Nat := if f = 12 ∧ d = 54 then some 8 else none
/-- The context; its second one has no function that is trusted with empty slices. -/
noncomputable def KC0 (cl : List Nat) : Ctx := { P := Try.prog, keep := fun f => keepL.contains f, ann := annOf, up := upOf, own := fun f d => ownL.contains (f, d), frz := fun f => frzL.contains f, bor := fun f => borL.contains f, car := fun f r => carL.contains (f, r), cln := fun f => cl.contains f, lift := liftOf, eqs := eqsOf }
noncomputable def KC : Ctx := KC0 clnL
section
@[simp] theorem KC_P : KC.P = Try.prog := .trans rfl rfl
@[simp] theorem KC_own {f d : Nat} : KC.own f d = ownL.contains (f, d) := .trans rfl rfl
@[simp] theorem KC_lift {f d : Nat} : KC.lift f d = liftOf f d := .trans rfl rfl
attribute [simp] liftOf ownL
@[simp] theorem KC_ann_7_9 : KC.ann 7 9 = some ([3, 4, 5, 6, 7, 8, 9, 10, 11], [3, 4, 5, 6, 7, 8, 9, 10]) := by kernel_rfl
@[simp] theorem KC_car_7_9 : KC.car 7 9 = false := by kernel_rfl
@[simp] theorem KC_ann_7_13 : KC.ann 7 13 = some ([3, 4, 5, 6, 7, 8, 9, 10, 12], [3, 4, 5, 6, 7, 8, 9]) := by kernel_rfl
@[simp] theorem KC_car_7_13 : KC.car 7 13 = false := by kernel_rfl
@[simp] theorem KC_ann_7_24 : KC.ann 7 24 = some ([7, 8, 9, 15, 16, 17, 18, 19, 20], [7, 8, 9, 15, 16, 17, 18, 19]) := by kernel_rfl
@[simp] theorem KC_car_7_24 : KC.car 7 24 = false := by kernel_rfl
@[simp] theorem KC_ann_12_6 : KC.ann 12 6 = some ([0, 6, 7, 8, 9, 10], [6, 7, 8, 9]) := by kernel_rfl
@[simp] theorem KC_car_12_6 : KC.car 12 6 = true := by kernel_rfl
@[simp] theorem KC_ann_12_23 : KC.ann 12 23 = some ([6, 7, 8, 9, 18], [6, 7, 8]) := by kernel_rfl
@[simp] theorem KC_car_12_23 : KC.car 12 23 = false := by kernel_rfl
@[simp] theorem KC_ann_12_26 : KC.ann 12 26 = some ([6, 7, 8, 9, 18, 19], [6, 7, 8, 9, 18]) := by kernel_rfl
@[simp] theorem KC_car_12_26 : KC.car 12 26 = false := by kernel_rfl
@[simp] theorem KC_ann_12_33 : KC.ann 12 33 = some ([6, 7, 8, 21], [6, 7]) := by kernel_rfl
@[simp] theorem KC_car_12_33 : KC.car 12 33 = false := by kernel_rfl
@[simp] theorem KC_ann_13_4 : KC.ann 13 4 = some ([0, 3, 4], [3]) := by kernel_rfl
@[simp] theorem KC_car_13_4 : KC.car 13 4 = false := by kernel_rfl
@[simp] theorem KC_ann_15_8 : KC.ann 15 8 = some ([1, 17, 18, 19], [2]) := by kernel_rfl
@[simp] theorem KC_car_15_8 : KC.car 15 8 = false := by kernel_rfl
@[simp] theorem KC_ann_17_5 : KC.ann 17 5 = some ([2, 3, 5], [2, 3, 4]) := by kernel_rfl
@[simp] theorem KC_car_17_5 : KC.car 17 5 = false := by kernel_rfl
@[simp] theorem KC_ann_17_10 : KC.ann 17 10 = some ([2, 3, 6], [4]) := by kernel_rfl
@[simp] theorem KC_car_17_10 : KC.car 17 10 = false := by kernel_rfl
@[simp] theorem KC_ann_25_9 : KC.ann 25 9 = some ([1, 2, 3, 6, 9, 28, 29, 30], [3, 6, 9]) := by kernel_rfl
@[simp] theorem KC_car_25_9 : KC.car 25 9 = false := by kernel_rfl
@[simp] theorem KC_ann_27_5 : KC.ann 27 5 = some ([0, 1, 5], [4]) := by kernel_rfl
@[simp] theorem KC_car_27_5 : KC.car 27 5 = false := by kernel_rfl
@[simp] theorem KC_ann_32_5 : KC.ann 32 5 = some ([0, 4, 5, 6, 7], [0, 4, 5]) := by kernel_rfl
@[simp] theorem KC_car_32_5 : KC.car 32 5 = false := by kernel_rfl
@[simp] theorem KC_ann_32_9 : KC.ann 32 9 = some ([0, 4, 5, 8], [0, 4, 5]) := by kernel_rfl
@[simp] theorem KC_car_32_9 : KC.car 32 9 = false := by kernel_rfl
@[simp] theorem KC_ann_32_16 : KC.ann 32 16 = some ([0, 4, 5, 10], [4, 5]) := by kernel_rfl
@[simp] theorem KC_car_32_16 : KC.car 32 16 = false := by kernel_rfl
@[simp] theorem KC_ann_33_4 : KC.ann 33 4 = some ([1, 2, 3, 4], [1, 2, 3]) := by kernel_rfl
@[simp] theorem KC_car_33_4 : KC.car 33 4 = false := by kernel_rfl
@[simp] theorem KC_ann_33_8 : KC.ann 33 8 = some ([1, 2, 3, 5], [2, 3]) := by kernel_rfl
@[simp] theorem KC_car_33_8 : KC.car 33 8 = false := by kernel_rfl
@[simp] theorem KC_ann_35_5 : KC.ann 35 5 = some ([0, 5, 6, 8, 10, 11, 12], [0, 8, 10]) := by kernel_rfl
@[simp] theorem KC_car_35_5 : KC.car 35 5 = false := by kernel_rfl
@[simp] theorem KC_ann_40_10 : KC.ann 40 10 = some ([1, 30, 31, 32], [1, 2]) := by kernel_rfl
@[simp] theorem KC_car_40_10 : KC.car 40 10 = false := by kernel_rfl
@[simp] theorem KC_ann_40_17 : KC.ann 40 17 = some ([1, 4, 30, 31, 32, 51, 52, 53], [1, 2, 30, 31, 32]) := by kernel_rfl
@[simp] theorem KC_car_40_17 : KC.car 40 17 = false := by kernel_rfl
@[simp] theorem KC_ann_40_26 : KC.ann 40 26 = some ([1, 69, 70, 71], [1, 2]) := by kernel_rfl
@[simp] theorem KC_car_40_26 : KC.car 40 26 = false := by kernel_rfl
@[simp] theorem KC_ann_49_5 : KC.ann 49 5 = some ([0, 1, 5], [4]) := by kernel_rfl
@[simp] theorem KC_car_49_5 : KC.car 49 5 = false := by kernel_rfl
@[simp] theorem KC_ann_58_4 : KC.ann 58 4 = some ([0, 1, 5, 6], [5]) := by kernel_rfl
@[simp] theorem KC_car_58_4 : KC.car 58 4 = false := by kernel_rfl
@[simp] theorem KC_ann_59_4 : KC.ann 59 4 = some ([1, 2, 5, 6], [1, 2, 5]) := by kernel_rfl
@[simp] theorem KC_car_59_4 : KC.car 59 4 = false := by kernel_rfl
@[simp] theorem KC_ann_59_8 : KC.ann 59 8 = some ([1, 2, 5, 7], [5]) := by kernel_rfl
@[simp] theorem KC_car_59_8 : KC.car 59 8 = false := by kernel_rfl
@[simp] theorem KC_ann_59_11 : KC.ann 59 11 = some ([1, 2, 5, 7, 8], [1, 2, 5, 7]) := by kernel_rfl
@[simp] theorem KC_car_59_11 : KC.car 59 11 = false := by kernel_rfl
@[simp] theorem KC_ann_59_18 : KC.ann 59 18 = some ([1, 2, 5, 7, 8, 9, 10], [1, 2, 5, 7, 8]) := by kernel_rfl
@[simp] theorem KC_car_59_18 : KC.car 59 18 = false := by kernel_rfl
@[simp] theorem KC_ann_59_24 : KC.ann 59 24 = some ([1, 2, 5, 7, 8, 9, 11], [1, 2, 5, 7, 8]) := by kernel_rfl
@[simp] theorem KC_car_59_24 : KC.car 59 24 = false := by kernel_rfl
@[simp] theorem KC_ann_60_6 : KC.ann 60 6 = some ([3, 4, 5, 9], [3, 4, 5, 6]) := by kernel_rfl
@[simp] theorem KC_car_60_6 : KC.car 60 6 = false := by kernel_rfl
@[simp] theorem KC_ann_61_3 : KC.ann 61 3 = some ([1, 2, 5], [4]) := by kernel_rfl
@[simp] theorem KC_car_61_3 : KC.car 61 3 = false := by kernel_rfl
@[simp] theorem KC_ann_66_3 : KC.ann 66 3 = some ([0, 1, 2, 9, 10, 11], [6]) := by kernel_rfl
@[simp] theorem KC_car_66_3 : KC.car 66 3 = false := by kernel_rfl
@[simp] theorem KC_ann_69_3 : KC.ann 69 3 = some ([0, 1, 7, 8], [4]) := by kernel_rfl
@[simp] theorem KC_car_69_3 : KC.car 69 3 = false := by kernel_rfl
@[simp] theorem KC_ann_85_3 : KC.ann 85 3 = some ([0, 1, 5], [4]) := by kernel_rfl
@[simp] theorem KC_car_85_3 : KC.car 85 3 = false := by kernel_rfl
@[simp] theorem KC_ann_85_6 : KC.ann 85 6 = some ([0, 1, 5, 6], [0, 1, 4, 5]) := by kernel_rfl
@[simp] theorem KC_car_85_6 : KC.car 85 6 = false := by kernel_rfl
@[simp] theorem KC_up_7_100 : KC.up 7 100 = .scopes 1 := by kernel_rfl
@[simp] theorem KC_up_11_6 : KC.up 11 6 = .scopes 0 := by kernel_rfl
@[simp] theorem KC_up_11_10 : KC.up 11 10 = .scopes 0 := by kernel_rfl
@[simp] theorem KC_up_11_22 : KC.up 11 22 = .scopes 0 := by kernel_rfl
@[simp] theorem KC_up_12_62 : KC.up 12 62 = .box 7 := by kernel_rfl
@[simp] theorem KC_up_12_102 : KC.up 12 102 = .box 7 := by kernel_rfl
@[simp] theorem KC_up_12_140 : KC.up 12 140 = .box 7 := by kernel_rfl
@[simp] theorem KC_up_25_56 : KC.up 25 56 = .scopes 1 := by kernel_rfl
@[simp] theorem KC_up_31_5 : KC.up 31 5 = .scopes 0 := by kernel_rfl
@[simp] theorem KC_up_32_46 : KC.up 32 46 = .box 5 := by kernel_rfl
@[simp] theorem KC_up_32_83 : KC.up 32 83 = .box 5 := by kernel_rfl
@[simp] theorem KC_up_32_96 : KC.up 32 96 = .box 5 := by kernel_rfl
@[simp] theorem KC_up_33_22 : KC.up 33 22 = .box 3 := by kernel_rfl
@[simp] theorem KC_up_33_27 : KC.up 33 27 = .box 3 := by kernel_rfl
@[simp] theorem KC_up_33_53 : KC.up 33 53 = .box 3 := by kernel_rfl
@[simp] theorem KC_up_35_35 : KC.up 35 35 = .scopes 1 := by kernel_rfl
@[simp] theorem KC_up_35_52 : KC.up 35 52 = .scopes 1 := by kernel_rfl
@[simp] theorem KC_up_36_6 : KC.up 36 6 = .scopes 0 := by kernel_rfl
@[simp] theorem KC_up_36_10 : KC.up 36 10 = .scopes 0 := by kernel_rfl
@[simp] theorem KC_up_36_14 : KC.up 36 14 = .scopes 0 := by kernel_rfl
@[simp] theorem KC_up_58_20 : KC.up 58 20 = .scopes 1 := by kernel_rfl
@[simp] theorem KC_up_59_26 : KC.up 59 26 = .scopes 1 := by kernel_rfl
@[simp] theorem KC_up_59_43 : KC.up 59 43 = .scopes 2 := by kernel_rfl
@[simp] theorem KC_up_59_58 : KC.up 59 58 = .scopes 3 := by kernel_rfl
@[simp] theorem KC_up_59_76 : KC.up 59 76 = .scopes 3 := by kernel_rfl
@[simp] theorem KC_up_64_61 : KC.up 64 61 = .box 5 := by kernel_rfl
@[simp] theorem KC_up_75_7 : KC.up 75 7 = .scopes 0 := by kernel_rfl
@[simp] theorem KC_up_78_7 : KC.up 78 7 = .scopes 0 := by kernel_rfl
@[simp] theorem KC_up_79_7 : KC.up 79 7 = .scopes 0 := by kernel_rfl
@[simp] theorem KC_up_80_7 : KC.up 80 7 = .scopes 0 := by kernel_rfl
@[simp] theorem need_7_15 : needT 7 15 = [(7, 1), (7, 4), (10, 1), (10, 4), (12, 1), (12, 4), (15, 4)] := by kernel_rfl
@[simp] theorem need_7_20 : needT 7 20 = [(2, 0), (4, 0)] := by kernel_rfl
@[simp] theorem need_7_25 : needT 7 25 = [(8, 4)] := by kernel_rfl
@[simp] theorem need_11_1 : needT 11 1 = [(6, 3)] := by kernel_rfl
@[simp] theorem need_11_2 : needT 11 2 = [(4, 2), (8, 2), (8, 5)] := by kernel_rfl
@[simp] theorem need_12_20 : needT 12 20 = [(4, 0)] := by kernel_rfl
@[simp] theorem need_12_34 : needT 12 34 = [(20, 4)] := by kernel_rfl
@[simp] theorem need_13_5 : needT 13 5 = [] := by kernel_rfl
@[simp] theorem need_15_11 : needT 15 11 = [] := by kernel_rfl
@[simp] theorem need_17_6 : needT 17 6 = [] := by kernel_rfl
@[simp] theorem need_17_11 : needT 17 11 = [] := by kernel_rfl
@[simp] theorem need_27_6 : needT 27 6 = [] := by kernel_rfl
@[simp] theorem need_32_6 : needT 32 6 = [(3, 1), (6, 3), (7, 3), (9, 3)] := by kernel_rfl
@[simp] theorem need_32_10 : needT 32 10 = [(6, 1), (11, 1), (11, 9), (13, 1), (13, 9)] := by kernel_rfl
@[simp] theorem need_33_5 : needT 33 5 = [(11, 9)] := by kernel_rfl
@[simp] theorem need_33_9 : needT 33 9 = [] := by kernel_rfl
@[simp] theorem need_35_6 : needT 35 6 = [] := by kernel_rfl
@[simp] theorem need_35_9 : needT 35 9 = [] := by kernel_rfl
@[simp] theorem need_36_1 : needT 36 1 = [(6, 3), (10, 3), (10, 7)] := by kernel_rfl
@[simp] theorem need_37_1 : needT 37 1 = [] := by kernel_rfl
@[simp] theorem need_37_6 : needT 37 6 = [(14, 7), (14, 9)] := by kernel_rfl
@[simp] theorem need_37_8 : needT 37 8 = [(17, 7)] := by kernel_rfl
@[simp] theorem need_37_10 : needT 37 10 = [(7, 1), (7, 3), (9, 7), (11, 7), (13, 7), (17, 9), (17, 11), (17, 13)] := by kernel_rfl
@[simp] theorem need_38_1 : needT 38 1 = [(3, 2), (4, 2)] := by kernel_rfl
@[simp] theorem need_44_1 : needT 44 1 = [] := by kernel_rfl
@[simp] theorem need_49_6 : needT 49 6 = [] := by kernel_rfl
@[simp] theorem need_55_1 : needT 55 1 = [(4, 2), (7, 2), (7, 5), (10, 2), (10, 5), (10, 8)] := by kernel_rfl
@[simp] theorem need_58_7 : needT 58 7 = [] := by kernel_rfl
@[simp] theorem need_60_1 : needT 60 1 = [] := by kernel_rfl
@[simp] theorem need_60_7 : needT 60 7 = [] := by kernel_rfl
@[simp] theorem need_60_9 : needT 60 9 = [] := by kernel_rfl
@[simp] theorem need_60_11 : needT 60 11 = [] := by kernel_rfl
@[simp] theorem need_60_15 : needT 60 15 = [] := by kernel_rfl
@[simp] theorem need_62_3 : needT 62 3 = [] := by kernel_rfl
@[simp] theorem need_62_4 : needT 62 4 = [] := by kernel_rfl
@[simp] theorem need_64_2 : needT 64 2 = [] := by kernel_rfl
@[simp] theorem need_64_6 : needT 64 6 = [] := by kernel_rfl
@[simp] theorem need_83_1 : needT 83 1 = [] := by kernel_rfl
@[simp] theorem need_85_7 : needT 85 7 = [] := by kernel_rfl
@[simp] theorem KC_eqs {t : Nat} : KC.eqs t = eqsOf t := .trans rfl rfl
end
@[simp] theorem ty_agg3 : tagg Try.prog 3 = some false := by kernel_rfl
@[simp] theorem ty_size3 : tsize Try.prog 3 = some 1 := by kernel_rfl
@[simp] theorem ty_agg4 : tagg Try.prog 4 = some false := by kernel_rfl
@[simp] theorem ty_size4 : tsize Try.prog 4 = some 1 := by kernel_rfl
@[simp] theorem ty_agg22 : tagg Try.prog 22 = some false := by kernel_rfl
@[simp] theorem ty_size22 : tsize Try.prog 22 = some 1 := by kernel_rfl
@[simp] theorem ty_elem22 : telemS Try.prog 22 = some (some 2) := by kernel_rfl
@[simp] theorem ty_arr22 : tarrS Try.prog 22 = none := by kernel_rfl
@[simp] theorem ty_app22 : tapp Try.prog 22 = some ((some 2), (some 16), (some 2)) := by kernel_rfl
@[simp] theorem ty_lit22 : tlit Try.prog 22 = some ((some 2), (some [(.pure (.int .i64 0)), (.pure (.int .i64 0))])) := by kernel_rfl
@[simp] theorem ty_spread22 : spreads Try.prog (some 22) = true := by kernel_rfl
@[simp] theorem ty_agg23 : tagg Try.prog 23 = some false := by kernel_rfl
@[simp] theorem ty_size23 : tsize Try.prog 23 = some 1 := by kernel_rfl
@[simp] theorem ty_elem23 : telemS Try.prog 23 = some (some 5) := by kernel_rfl
@[simp] theorem ty_arr23 : tarrS Try.prog 23 = none := by kernel_rfl
@[simp] theorem ty_app23 : tapp Try.prog 23 = some ((some 5), (some 40), (some 5)) := by kernel_rfl
@[simp] theorem ty_lit23 : tlit Try.prog 23 = some ((some 5), (some [(.pure (.int .i64 0)), (.pure (.int .i64 0)), (.pure (.int .i64 0)), (.pure (.int .i64 0)), (.pure (.bool false))])) := by kernel_rfl
@[simp] theorem ty_spread23 : spreads Try.prog (some 23) = true := by kernel_rfl
@[simp] theorem ty_agg24 : tagg Try.prog 24 = some false := by kernel_rfl
@[simp] theorem ty_size24 : tsize Try.prog 24 = some 1 := by kernel_rfl
@[simp] theorem ty_elem24 : telemS Try.prog 24 = some (some 1) := by kernel_rfl
@[simp] theorem ty_arr24 : tarrS Try.prog 24 = none := by kernel_rfl
@[simp] theorem ty_app24 : tapp Try.prog 24 = some ((some 1), (some 8), (some 1)) := by kernel_rfl
@[simp] theorem ty_lit24 : tlit Try.prog 24 = some ((some 1), (some [(.pure (.int .i64 0))])) := by kernel_rfl
@[simp] theorem ty_spread24 : spreads Try.prog (some 24) = true := by kernel_rfl
@[simp] theorem ty_agg25 : tagg Try.prog 25 = some false := by kernel_rfl
@[simp] theorem ty_size25 : tsize Try.prog 25 = some 1 := by kernel_rfl
@[simp] theorem ty_elem25 : telemS Try.prog 25 = some (some 9) := by kernel_rfl
@[simp] theorem ty_arr25 : tarrS Try.prog 25 = none := by kernel_rfl
@[simp] theorem ty_app25 : tapp Try.prog 25 = some ((some 9), (some 72), (some 9)) := by kernel_rfl
@[simp] theorem ty_lit25 : tlit Try.prog 25 = some ((some 9), (some [(.pure (.int .i64 0)), (.pure (.int .i64 0)), (.pure (.int .i64 0)), (.pure (.int .i64 0)), (.pure (.int .i64 0)), (.pure (.int .i64 0)), (.pure (.int .i64 0)), (.pure (.int .i64 0)), (.pure (.int .i64 0))])) := by kernel_rfl
@[simp] theorem ty_spread25 : spreads Try.prog (some 25) = true := by kernel_rfl
@[simp] theorem ty_agg27 : tagg Try.prog 27 = some true := by kernel_rfl
@[simp] theorem ty_size27 : tsize Try.prog 27 = some 7 := by kernel_rfl
@[simp] theorem ty_zero27 : tzero Try.prog 27 = some (.agg [(.pure (.int .i64 0)), (.pure (.int .i64 0)), .nils, .nils, .nils, .nils, .nils]) := by kernel_rfl
@[simp] theorem ty_arr27 : tarrS Try.prog 27 = none := by kernel_rfl
@[simp] theorem ty_places27 : tplaces Try.prog 27 = some [(0, 1), (1, 1), (2, 1), (3, 1), (4, 1), (5, 1), (6, 1)] := by kernel_rfl
@[simp] theorem ty_agg29 : tagg Try.prog 29 = some true := by kernel_rfl
@[simp] theorem ty_size29 : tsize Try.prog 29 = some 9 := by kernel_rfl
@[simp] theorem ty_zero29 : tzero Try.prog 29 = some (.pure (.agg [(.int .i64 0), (.int .i64 0), (.int .i64 0), (.int .i64 0), (.int .i64 0), (.int .i64 0), (.int .i64 0), (.int .i64 0), (.int .i64 0)])) := by kernel_rfl
@[simp] theorem ty_arr29 : tarrS Try.prog 29 = none := by kernel_rfl
@[simp] theorem ty_places29 : tplaces Try.prog 29 = some [(0, 1), (1, 1), (2, 1), (3, 1), (4, 1), (5, 1), (6, 1), (7, 1), (8, 1)] := by kernel_rfl
@[simp] theorem ty_agg45 : tagg Try.prog 45 = some false := by kernel_rfl
@[simp] theorem ty_size45 : tsize Try.prog 45 = some 1 := by kernel_rfl
@[simp] theorem ty_elem45 : telemS Try.prog 45 = some (some 2) := by kernel_rfl
@[simp] theorem ty_arr45 : tarrS Try.prog 45 = none := by kernel_rfl
@[simp] theorem ty_app45 : tapp Try.prog 45 = some ((some 2), (some 16), (some 2)) := by kernel_rfl
@[simp] theorem ty_lit45 : tlit Try.prog 45 = some ((some 2), (some [(.pure (.int .i64 0)), (.pure (.int .i64 0))])) := by kernel_rfl
@[simp] theorem ty_spread45 : spreads Try.prog (some 45) = true := by kernel_rfl
@[simp] theorem ty_agg46 : tagg Try.prog 46 = some false := by kernel_rfl
@[simp] theorem ty_size46 : tsize Try.prog 46 = some 1 := by kernel_rfl
@[simp] theorem ty_elem46 : telemS Try.prog 46 = some (some 2) := by kernel_rfl
@[simp] theorem ty_arr46 : tarrS Try.prog 46 = none := by kernel_rfl
@[simp] theorem ty_app46 : tapp Try.prog 46 = some ((some 2), (some 16), (some 2)) := by kernel_rfl
@[simp] theorem ty_lit46 : tlit Try.prog 46 = some ((some 2), (some [(.pure (.int .i64 0)), (.pure (.int .i64 0))])) := by kernel_rfl
@[simp] theorem ty_spread46 : spreads Try.prog (some 46) = true := by kernel_rfl
@[simp] theorem ty_agg48 : tagg Try.prog 48 = some true := by kernel_rfl
@[simp] theorem ty_size48 : tsize Try.prog 48 = some 3 := by kernel_rfl
@[simp] theorem ty_zero48 : tzero Try.prog 48 = some (.agg [.nils, .nils, .nils]) := by kernel_rfl
@[simp] theorem ty_arr48 : tarrS Try.prog 48 = none := by kernel_rfl
@[simp] theorem ty_places48 : tplaces Try.prog 48 = some [(0, 1), (1, 1), (2, 1)] := by kernel_rfl
@[simp] theorem ty_zero53 : tzero Try.prog 53 = some (.pure (.agg [(.int .i64 0), (.int .i64 0)])) := by kernel_rfl
@[simp] theorem ty_arr53 : tarrS Try.prog 53 = some (2, (some 1), (some false)) := by kernel_rfl
@[simp] theorem ty_zero55 : tzero Try.prog 55 = some (.pure (.agg [(.int .i64 0), (.int .i64 0)])) := by kernel_rfl
@[simp] theorem ty_arr55 : tarrS Try.prog 55 = none := by kernel_rfl
@[simp] theorem ty_places55 : tplaces Try.prog 55 = some [(0, 1), (1, 1)] := by kernel_rfl
@[simp] theorem ty_agg57 : tagg Try.prog 57 = some true := by kernel_rfl
@[simp] theorem ty_size57 : tsize Try.prog 57 = some 5 := by kernel_rfl
@[simp] theorem ty_zero57 : tzero Try.prog 57 = some (.pure (.agg [(.int .i64 0), (.int .i64 0), (.int .i64 0), (.int .i64 0), (.bool false)])) := by kernel_rfl
@[simp] theorem ty_arr57 : tarrS Try.prog 57 = none := by kernel_rfl
@[simp] theorem ty_places57 : tplaces Try.prog 57 = some [(0, 1), (1, 1), (2, 1), (3, 1), (4, 1)] := by kernel_rfl
@[simp] theorem ty_agg75 : tagg Try.prog 75 = some false := by kernel_rfl
@[simp] theorem ty_size75 : tsize Try.prog 75 = some 1 := by kernel_rfl
@[simp] theorem ty_zero77 : tzero Try.prog 77 = some (.pure (.agg [(.int .u64 0)])) := by kernel_rfl
@[simp] theorem ty_arr77 : tarrS Try.prog 77 = none := by kernel_rfl
@[simp] theorem ty_places77 : tplaces Try.prog 77 = some [(0, 1)] := by kernel_rfl
@[simp] theorem ty_agg85 : tagg Try.prog 85 = some true := by kernel_rfl
@[simp] theorem ty_size85 : tsize Try.prog 85 = some 2 := by kernel_rfl
@[simp] theorem ty_zero85 : tzero Try.prog 85 = some (.pure (.agg [(.int .i64 0), (.int .i64 0)])) := by kernel_rfl
@[simp] theorem ty_arr85 : tarrS Try.prog 85 = none := by kernel_rfl
@[simp] theorem ty_places85 : tplaces Try.prog 85 = some [(0, 1), (1, 1)] := by kernel_rfl
@[simp] theorem ty_agg107 : tagg Try.prog 107 = some true := by kernel_rfl
@[simp] theorem ty_size107 : tsize Try.prog 107 = some 3 := by kernel_rfl
@[simp] theorem ty_zero107 : tzero Try.prog 107 = some (.agg [.nils, .nils, .nils]) := by kernel_rfl
@[simp] theorem ty_arr107 : tarrS Try.prog 107 = none := by kernel_rfl
@[simp] theorem ty_places107 : tplaces Try.prog 107 = some [(0, 1), (1, 1), (2, 1)] := by kernel_rfl
@[simp] theorem ty_fs27_0 : tfs Try.prog 27 0 = some (0, (some 1)) := by kernel_rfl
@[simp] theorem ty_fs27_1 : tfs Try.prog 27 1 = some (1, (some 1)) := by kernel_rfl
@[simp] theorem ty_fs27_2 : tfs Try.prog 27 2 = some (2, (some 1)) := by kernel_rfl
@[simp] theorem ty_fs27_3 : tfs Try.prog 27 3 = some (3, (some 1)) := by kernel_rfl
@[simp] theorem ty_fs27_4 : tfs Try.prog 27 4 = some (4, (some 1)) := by kernel_rfl
@[simp] theorem ty_fs27_5 : tfs Try.prog 27 5 = some (5, (some 1)) := by kernel_rfl
@[simp] theorem ty_fs27_6 : tfs Try.prog 27 6 = some (6, (some 1)) := by kernel_rfl
@[simp] theorem ty_fs29_0 : tfs Try.prog 29 0 = some (0, (some 1)) := by kernel_rfl
@[simp] theorem ty_fs29_1 : tfs Try.prog 29 1 = some (1, (some 1)) := by kernel_rfl
@[simp] theorem ty_fs29_2 : tfs Try.prog 29 2 = some (2, (some 1)) := by kernel_rfl
@[simp] theorem ty_fs29_3 : tfs Try.prog 29 3 = some (3, (some 1)) := by kernel_rfl
@[simp] theorem ty_fs29_4 : tfs Try.prog 29 4 = some (4, (some 1)) := by kernel_rfl
@[simp] theorem ty_fs29_5 : tfs Try.prog 29 5 = some (5, (some 1)) := by kernel_rfl
@[simp] theorem ty_fs29_6 : tfs Try.prog 29 6 = some (6, (some 1)) := by kernel_rfl
@[simp] theorem ty_fs29_7 : tfs Try.prog 29 7 = some (7, (some 1)) := by kernel_rfl
@[simp] theorem ty_fs29_8 : tfs Try.prog 29 8 = some (8, (some 1)) := by kernel_rfl
@[simp] theorem ty_fs48_0 : tfs Try.prog 48 0 = some (0, (some 1)) := by kernel_rfl
@[simp] theorem ty_fs48_1 : tfs Try.prog 48 1 = some (1, (some 1)) := by kernel_rfl
@[simp] theorem ty_fs48_2 : tfs Try.prog 48 2 = some (2, (some 1)) := by kernel_rfl
@[simp] theorem ty_fs55_0 : tfs Try.prog 55 0 = some (0, (some 1)) := by kernel_rfl
@[simp] theorem ty_fs55_1 : tfs Try.prog 55 1 = some (1, (some 1)) := by kernel_rfl
@[simp] theorem ty_fs57_0 : tfs Try.prog 57 0 = some (0, (some 1)) := by kernel_rfl
@[simp] theorem ty_fs57_1 : tfs Try.prog 57 1 = some (1, (some 1)) := by kernel_rfl
@[simp] theorem ty_fs57_2 : tfs Try.prog 57 2 = some (2, (some 1)) := by kernel_rfl
@[simp] theorem ty_fs57_3 : tfs Try.prog 57 3 = some (3, (some 1)) := by kernel_rfl
@[simp] theorem ty_fs57_4 : tfs Try.prog 57 4 = some (4, (some 1)) := by kernel_rfl
@[simp] theorem ty_fs77_0 : tfs Try.prog 77 0 = some (0, (some 1)) := by kernel_rfl
@[simp] theorem ty_fs85_0 : tfs Try.prog 85 0 = some (0, (some 1)) := by kernel_rfl
@[simp] theorem ty_fs85_1 : tfs Try.prog 85 1 = some (1, (some 1)) := by kernel_rfl
@[simp] theorem ty_fs107_0 : tfs Try.prog 107 0 = some (0, (some 1)) := by kernel_rfl
@[simp] theorem ty_fs107_1 : tfs Try.prog 107 1 = some (1, (some 1)) := by kernel_rfl
@[simp] theorem ty_fs107_2 : tfs Try.prog 107 2 = some (2, (some 1)) := by kernel_rfl
attribute [simp] Try.results2 Try.ntmps2
attribute [simp] Try.results3 Try.ntmps3
attribute [simp] Try.results4 Try.ntmps4
attribute [simp] Try.results5 Try.ntmps5
attribute [simp] Try.results6 Try.ntmps6
attribute [simp] Try.results7 Try.ntmps7
attribute [simp] Try.results8 Try.ntmps8
attribute [simp] Try.results9 Try.ntmps9
attribute [simp] Try.results10 Try.ntmps10
attribute [simp] Try.results11 Try.ntmps11
attribute [simp] Try.results12 Try.ntmps12
attribute [simp] Try.results13 Try.ntmps13
attribute [simp] Try.results14 Try.ntmps14
attribute [simp] Try.results15 Try.ntmps15
attribute [simp] Try.results16 Try.ntmps16
attribute [simp] Try.results17 Try.ntmps17
attribute [simp] Try.results18 Try.ntmps18
attribute [simp] Try.results19 Try.ntmps19
attribute [simp] Try.results20 Try.ntmps20
attribute [simp] Try.results21 Try.ntmps21
attribute [simp] Try.results22 Try.ntmps22
attribute [simp] Try.results23 Try.ntmps23
attribute [simp] Try.results24 Try.ntmps24
attribute [simp] Try.results25 Try.ntmps25
attribute [simp] Try.results26 Try.ntmps26
attribute [simp] Try.results27 Try.ntmps27
attribute [simp] Try.results28 Try.ntmps28
attribute [simp] Try.results29 Try.ntmps29
attribute [simp] Try.results30 Try.ntmps30
attribute [simp] Try.results31 Try.ntmps31
attribute [simp] Try.results32 Try.ntmps32
attribute [simp] Try.results33 Try.ntmps33
attribute [simp] Try.results34 Try.ntmps34
attribute [simp] Try.results35 Try.ntmps35
attribute [simp] Try.results36 Try.ntmps36
attribute [simp] Try.results37 Try.ntmps37
attribute [simp] Try.results38 Try.ntmps38
attribute [simp] Try.results39 Try.ntmps39
attribute [simp] Try.results40 Try.ntmps40
attribute [simp] Try.results41 Try.ntmps41
attribute [simp] Try.results42 Try.ntmps42
attribute [simp] Try.results43 Try.ntmps43
attribute [simp] Try.results44 Try.ntmps44
attribute [simp] Try.results45 Try.ntmps45
attribute [simp] Try.results46 Try.ntmps46
attribute [simp] Try.results47 Try.ntmps47
attribute [simp] Try.results48 Try.ntmps48
attribute [simp] Try.results49 Try.ntmps49
attribute [simp] Try.results50 Try.ntmps50
attribute [simp] Try.results51 Try.ntmps51
attribute [simp] Try.results52 Try.ntmps52
attribute [simp] Try.results53 Try.ntmps53
attribute [simp] Try.results54 Try.ntmps54
attribute [simp] Try.results55 Try.ntmps55
attribute [simp] Try.results56 Try.ntmps56
attribute [simp] Try.results57 Try.ntmps57
attribute [simp] Try.results58 Try.ntmps58
attribute [simp] Try.results59 Try.ntmps59
attribute [simp] Try.results60 Try.ntmps60
attribute [simp] Try.results61 Try.ntmps61
attribute [simp] Try.results62 Try.ntmps62
attribute [simp] Try.results63 Try.ntmps63
attribute [simp] Try.results64 Try.ntmps64
attribute [simp] Try.results65 Try.ntmps65
attribute [simp] Try.results66 Try.ntmps66
attribute [simp] Try.results67 Try.ntmps67
attribute [simp] Try.results68 Try.ntmps68
attribute [simp] Try.results69 Try.ntmps69
attribute [simp] Try.results70 Try.ntmps70
attribute [simp] Try.results71 Try.ntmps71
attribute [simp] Try.results72 Try.ntmps72
attribute [simp] Try.results73 Try.ntmps73
attribute [simp] Try.results74 Try.ntmps74
attribute [simp] Try.results75 Try.ntmps75
attribute [simp] Try.results76 Try.ntmps76
attribute [simp] Try.results77 Try.ntmps77
attribute [simp] Try.results78 Try.ntmps78
attribute [simp] Try.results79 Try.ntmps79
attribute [simp] Try.results80 Try.ntmps80
attribute [simp] Try.results81 Try.ntmps81
attribute [simp] Try.results82 Try.ntmps82
attribute [simp] Try.results83 Try.ntmps83
attribute [simp] Try.results84 Try.ntmps84
attribute [simp] Try.results85 Try.ntmps85
attribute [simp] Try.results86 Try.ntmps86
attribute [simp] Try.results87 Try.ntmps87
attribute [simp] Try.results88 Try.ntmps88
attribute [simp] Try.results89 Try.ntmps89
attribute [simp] Try.results90 Try.ntmps90
attribute [simp] Try.results91 Try.ntmps91
attribute [simp] Try.results92 Try.ntmps92
attribute [simp] Try.results93 Try.ntmps93
attribute [simp] Try.results94 Try.ntmps94
attribute [simp] Try.results95 Try.ntmps95
attribute [simp] Try.results96 Try.ntmps96
attribute [simp] Try.results97 Try.ntmps97
attribute [simp] Try.results98 Try.ntmps98
attribute [simp] Try.results99 Try.ntmps99
attribute [simp] Try.results100 Try.ntmps100
attribute [simp] Try.results101 Try.ntmps101
attribute [simp] Try.results102 Try.ntmps102
attribute [simp] Try.results103 Try.ntmps103
attribute [simp] Try.results104 Try.ntmps104
attribute [simp] Try.results105 Try.ntmps105
attribute [simp] Try.results106 Try.ntmps106
attribute [simp] Try.results107 Try.ntmps107
attribute [simp] Try.results108 Try.ntmps108
attribute [simp] Try.results109 Try.ntmps109
attribute [simp] Try.results110 Try.ntmps110
attribute [simp] Try.results111 Try.ntmps111
attribute [simp] Try.results112 Try.ntmps112
attribute [simp] Try.results113 Try.ntmps113
attribute [simp] Try.results114 Try.ntmps114
attribute [simp] Try.results115 Try.ntmps115
attribute [simp] Try.results116 Try.ntmps116
attribute [simp] Try.results117 Try.ntmps117
attribute [simp] Try.results118 Try.ntmps118
attribute [simp] Try.results119 Try.ntmps119
attribute [simp] Try.results120 Try.ntmps120
attribute [simp] Try.results121 Try.ntmps121
attribute [simp] Try.results122 Try.ntmps122
attribute [simp] Try.results123 Try.ntmps123
attribute [simp] Try.results124 Try.ntmps124
attribute [simp] Try.results125 Try.ntmps125
attribute [simp] Try.results126 Try.ntmps126
attribute [simp] Try.results127 Try.ntmps127
attribute [simp] Try.results128 Try.ntmps128
attribute [simp] Try.results129 Try.ntmps129
attribute [simp] Try.results130 Try.ntmps130
attribute [simp] Try.results131 Try.ntmps131
attribute [simp] Try.results132 Try.ntmps132
end Go.Gh


/- The drawn regions of all functions may be walked in the text's order (made by program). -/
namespace Go.Gh
open Go.Proofs
theorem good7 : good KC needT 7 (Try.f7.body.getD .skip) = true := by kernel_rfl
theorem good11 : good KC needT 11 (Try.f11.body.getD .skip) = true := by kernel_rfl
theorem good12 : good KC needT 12 (Try.f12.body.getD .skip) = true := by kernel_rfl
theorem good13 : good KC needT 13 (Try.f13.body.getD .skip) = true := by kernel_rfl
theorem good15 : good KC needT 15 (Try.f15.body.getD .skip) = true := by kernel_rfl
theorem good17 : good KC needT 17 (Try.f17.body.getD .skip) = true := by kernel_rfl
theorem good22 : good KC needT 22 (Try.f22.body.getD .skip) = true := by kernel_rfl
theorem good24 : good KC needT 24 (Try.f24.body.getD .skip) = true := by kernel_rfl
theorem good25 : good KC needT 25 (Try.f25.body.getD .skip) = true := by kernel_rfl
theorem good26 : good KC needT 26 (Try.f26.body.getD .skip) = true := by kernel_rfl
theorem good27 : good KC needT 27 (Try.f27.body.getD .skip) = true := by kernel_rfl
theorem good31 : good KC needT 31 (Try.f31.body.getD .skip) = true := by kernel_rfl
theorem good32 : good KC needT 32 (Try.f32.body.getD .skip) = true := by kernel_rfl
theorem good33 : good KC needT 33 (Try.f33.body.getD .skip) = true := by kernel_rfl
theorem good34 : good KC needT 34 (Try.f34.body.getD .skip) = true := by kernel_rfl
theorem good35 : good KC needT 35 (Try.f35.body.getD .skip) = true := by kernel_rfl
theorem good36 : good KC needT 36 (Try.f36.body.getD .skip) = true := by kernel_rfl
theorem good37 : good KC needT 37 (Try.f37.body.getD .skip) = true := by kernel_rfl
theorem good38 : good KC needT 38 (Try.f38.body.getD .skip) = true := by kernel_rfl
theorem good39 : good KC needT 39 (Try.f39.body.getD .skip) = true := by kernel_rfl
theorem good40 : good KC needT 40 (Try.f40.body.getD .skip) = true := by kernel_rfl
theorem good41 : good KC needT 41 (Try.f41.body.getD .skip) = true := by kernel_rfl
theorem good42 : good KC needT 42 (Try.f42.body.getD .skip) = true := by kernel_rfl
theorem good43 : good KC needT 43 (Try.f43.body.getD .skip) = true := by kernel_rfl
theorem good44 : good KC needT 44 (Try.f44.body.getD .skip) = true := by kernel_rfl
theorem good49 : good KC needT 49 (Try.f49.body.getD .skip) = true := by kernel_rfl
theorem good55 : good KC needT 55 (Try.f55.body.getD .skip) = true := by kernel_rfl
theorem good58 : good KC needT 58 (Try.f58.body.getD .skip) = true := by kernel_rfl
theorem good59 : good KC needT 59 (Try.f59.body.getD .skip) = true := by kernel_rfl
theorem good60 : good KC needT 60 (Try.f60.body.getD .skip) = true := by kernel_rfl
theorem good61 : good KC needT 61 (Try.f61.body.getD .skip) = true := by kernel_rfl
theorem good62 : good KC needT 62 (Try.f62.body.getD .skip) = true := by kernel_rfl
theorem good63 : good KC needT 63 (Try.f63.body.getD .skip) = true := by kernel_rfl
theorem good64 : good KC needT 64 (Try.f64.body.getD .skip) = true := by kernel_rfl
theorem good65 : good KC needT 65 (Try.f65.body.getD .skip) = true := by kernel_rfl
theorem good66 : good KC needT 66 (Try.f66.body.getD .skip) = true := by kernel_rfl
theorem good67 : good KC needT 67 (Try.f67.body.getD .skip) = true := by kernel_rfl
theorem good68 : good KC needT 68 (Try.f68.body.getD .skip) = true := by kernel_rfl
theorem good69 : good KC needT 69 (Try.f69.body.getD .skip) = true := by kernel_rfl
theorem good75 : good KC needT 75 (Try.f75.body.getD .skip) = true := by kernel_rfl
theorem good78 : good KC needT 78 (Try.f78.body.getD .skip) = true := by kernel_rfl
theorem good79 : good KC needT 79 (Try.f79.body.getD .skip) = true := by kernel_rfl
theorem good80 : good KC needT 80 (Try.f80.body.getD .skip) = true := by kernel_rfl
theorem good83 : good KC needT 83 (Try.f83.body.getD .skip) = true := by kernel_rfl
theorem good84 : good KC needT 84 (Try.f84.body.getD .skip) = true := by kernel_rfl
theorem good85 : good KC needT 85 (Try.f85.body.getD .skip) = true := by kernel_rfl
theorem good86 : good KC needT 86 (Try.f86.body.getD .skip) = true := by kernel_rfl
end Go.Gh
