/- The context of a seat: annotations of its functions, facts on its types (made by program). -/
import Derived.Test.YtldhcphijclmdaaGw
import Derived.Test.YtldhcphijclmdaaProg
import Derived.KernelRfl
namespace Go.Gh
open Go.Proofs
set_option linter.unusedSimpArgs false
set_option linter.unusedVariables false

def annT : List (Nat × Nat × List Nat × List Nat) := [(3, 10, [16, 17, 18, 19, 20], [12]), (4, 10, [4, 5, 6, 7, 8, 10], [2, 4, 5, 6, 7]), (4, 15, [4, 5, 6, 7, 11], [2]), (5, 5, [3, 4, 5, 6], [3, 4, 5]), (5, 15, [8, 9, 10, 12], [2]), (6, 9, [3, 4, 5, 6, 7, 8, 9, 10], [4, 5, 6, 7, 8, 9]), (6, 18, [4, 7, 8, 11, 13, 15, 17], [2]), (7, 7, [3, 4, 5, 6, 7, 8], [3, 4, 5, 6, 7]), (7, 14, [3, 4, 5, 7, 9, 11], [2, 3, 4, 5, 7]), (7, 23, [12, 14], [2]), (8, 13, [3, 5, 6, 7, 8, 9, 10, 11, 13, 15, 16, 17, 18], [2]), (8, 17, [3, 5, 6, 7, 8, 9, 10, 11, 13, 15, 16, 17, 18], [3, 5, 6, 7, 8, 9, 10, 11, 13, 15, 16, 17, 18]), (9, 16, [10, 12, 14, 16, 18, 20, 22], [2, 18, 20]), (9, 21, [18, 20, 23], [2]), (10, 8, [14, 15, 16, 17, 18], [10]), (11, 10, [18, 19, 20, 21, 22, 23], [12]), (12, 11, [4, 5, 6, 7, 8, 9, 10, 11, 12], [2, 10, 11]), (12, 15, [4, 5, 6, 7, 8, 9, 10, 11, 12, 13, 14], [4, 5, 6, 7, 8, 9, 10, 11, 12, 13]), (15, 4, [0, 3, 4], [3]), (16, 4, [0, 4, 5, 6], [0, 4, 5]), (16, 9, [0, 4, 5, 7, 8], [4, 5]), (20, 5, [0, 3, 9, 10, 11, 12], [9]), (23, 7, [5, 14, 15, 16], [5]), (27, 5, [1, 14, 15, 16], [1, 2]), (27, 15, [6, 35, 36, 37], [2]), (28, 5, [1, 3], [1, 2]), (28, 20, [1, 8], [2]), (31, 9, [6, 7, 20, 21, 22], [4]), (32, 9, [1, 6, 7], [4]), (33, 5, [0, 1, 5], [4]), (34, 5, [2, 3, 5], [2, 3, 4]), (34, 10, [2, 3, 6], [4]), (35, 5, [0, 1, 5], [4]), (36, 5, [0, 3, 4, 5, 6, 7], [4, 5]), (37, 4, [0, 3, 5, 6], [5]), (38, 4, [2, 3, 5, 6], [2, 3, 5]), (38, 10, [2, 3, 5, 7], [5]), (38, 13, [2, 3, 5, 7, 8], [2, 3, 5, 7]), (38, 17, [2, 3, 5, 7, 8, 9, 10], [2, 3, 5, 7, 8]), (40, 4, [1, 2, 3, 4, 9, 10], [9]), (46, 7, [4, 12, 26, 27, 28], [12]), (50, 4, [0, 3, 4, 5, 6], [4, 5]), (54, 7, [4, 10, 12, 13], [12]), (55, 7, [8, 9, 25, 26, 27], [8, 9]), (56, 7, [11, 13, 14, 15], [13, 14]), (57, 5, [0, 1, 5], [4]), (58, 16, [13, 14, 43, 44], [10, 11]), (59, 12, [2, 3, 4, 5, 6, 13], [10, 11]), (60, 4, [1, 2, 4, 5, 6], [1, 2, 4, 5]), (60, 9, [1, 2, 4, 5, 7, 8], [2, 4, 5, 7]), (60, 14, [2, 4, 5, 7, 9], [4, 7]), (61, 3, [0, 1, 5], [4]), (62, 3, [0, 1, 5], [4]), (68, 5, [3, 4, 17, 18], [4]), (68, 9, [3, 4, 5, 6, 17, 18, 22], [3, 4, 6, 17, 18]), (70, 4, [1, 3, 4, 5], [1, 3, 4]), (70, 12, [7, 8, 9, 10], [9]), (72, 4, [1, 2, 6, 7, 12, 13, 14], [6, 7]), (74, 4, [1, 2, 3, 6, 7, 8], [6, 7]), (84, 6, [2, 3, 4, 5, 9, 10, 11, 12, 13, 14], [10]), (84, 11, [2, 3, 4, 5, 9, 10, 11, 12, 13, 14], [2, 3, 4, 5, 9, 10, 11, 12, 13, 14]), (86, 6, [0, 2, 5, 9, 14], [13]), (88, 5, [2, 4, 5, 6, 16, 17, 18], [2, 4, 5, 6]), (88, 11, [4, 5, 6, 38, 39, 40], [4, 5]), (89, 5, [2, 3, 4, 5, 7, 8, 9, 18], [16, 17]), (90, 4, [2, 3, 5, 16, 17, 18], [2, 3, 5]), (90, 11, [2, 5, 8, 9], [5]), (90, 14, [2, 5, 8, 9, 31, 32, 33], [2, 5, 8, 9]), (91, 4, [2, 3, 5, 6], [2, 3, 5]), (91, 10, [2, 3, 5, 7], [5]), (91, 13, [2, 3, 5, 7, 8], [2, 3, 5, 7]), (92, 4, [2, 3, 8, 9, 10], [2, 3]), (92, 7, [2, 3, 8, 9, 10, 14, 15], [2, 3, 8, 9, 10]), (93, 4, [0, 1, 2, 3, 5, 6, 7], [0, 1, 2, 3, 5, 6, 7]), (93, 100004, [0, 1, 2, 3, 5, 6, 7], []), (95, 4, [2, 3, 4, 11, 12], [2, 3, 4]), (96, 3, [3, 4, 5, 6, 11, 12], [3, 6]), (97, 4, [4, 5, 11, 12], [10])]
def upT : List (Nat × Nat × Up) := [(5, 34, .box 4), (5, 41, .box 4), (5, 50, .box 5), (5, 57, .box 5), (6, 47, .box 8), (12, 81, .scopes 1), (16, 33, .box 5), (16, 67, .box 5), (20, 54, .scopes 1), (21, 6, .scopes 0), (21, 10, .scopes 0), (22, 5, .scopes 0), (23, 24, .scopes 1), (36, 54, .box 5), (36, 59, .box 5), (37, 24, .scopes 1), (44, 31, .box 11), (46, 37, .scopes 1), (50, 41, .box 5), (54, 39, .scopes 1), (60, 49, .box 7), (60, 88, .box 7), (68, 41, .scopes 1), (70, 29, .box 3), (70, 36, .box 3), (70, 45, .box 4), (70, 52, .box 4), (70, 78, .scopes 1), (72, 78, .scopes 1), (84, 95, .scopes 1), (86, 37, .scopes 0), (86, 40, .scopes 0), (88, 34, .box 5), (88, 68, .box 5), (89, 48, .scopes 0), (89, 51, .scopes 0), (91, 27, .scopes 1), (91, 30, .scopes 1)]
def annOf (f r : Nat) : Option (List Nat × List Nat) := (annT.find? fun x => x.1 == f && x.2.1 == r).map fun x => x.2.2
def upOf (f d : Nat) : Up := ((upT.find? fun x => x.1 == f && x.2.1 == d).map fun x => x.2.2).getD (.scopes 0)
def needL : List (Nat × Nat × List (Nat × Nat)) := [(3, 6, [(6, 1), (7, 6)]), (3, 7, [(11, 0), (11, 1), (11, 2), (11, 4), (11, 5), (11, 6), (16, 0), (16, 1), (16, 2), (16, 4), (16, 5), (16, 6)]), (3, 11, [(8, 4)]), (3, 16, [(5, 1), (17, 13), (31, 27), (35, 27)]), (4, 3, [(4, 2)]), (4, 17, [(8, 3)]), (5, 7, [(8, 6), (11, 6)]), (5, 8, [(8, 6), (11, 6)]), (5, 9, [(3, 2), (4, 2)]), (5, 16, [(12, 3)]), (6, 5, [(3, 1), (5, 1), (7, 1), (9, 1)]), (7, 15, [(6, 3)]), (8, 4, [(4, 2)]), (8, 10, [(5, 3)]), (8, 15, [(9, 1)]), (9, 4, [(3, 2), (6, 3)]), (10, 5, [(11, 0), (11, 1), (11, 2), (11, 4), (11, 5), (11, 6), (16, 0), (16, 1), (16, 2), (16, 4), (16, 5), (16, 6)]), (11, 7, [(11, 0), (11, 1), (11, 2), (11, 4), (11, 5), (11, 6), (21, 0), (21, 1), (21, 2), (21, 4), (21, 5), (21, 6)]), (12, 18, [(3, 0)]), (14, 4, [(20, 19)]), (16, 5, [(3, 1), (5, 1), (9, 1), (10, 1), (12, 1)]), (16, 11, [(7, 1), (10, 1)]), (21, 1, [(6, 3)]), (25, 6, [(2, 0)]), (26, 6, [(2, 0)]), (36, 7, [(6, 3)]), (36, 13, [(6, 4)]), (49, 4, [(9, 5)]), (50, 6, [(5, 1), (8, 5), (9, 1), (12, 5), (12, 9), (13, 1), (15, 5), (15, 9), (15, 13)]), (51, 1, [(4, 2)]), (68, 1, [(2, 1)]), (70, 6, [(8, 6), (11, 6)]), (70, 7, [(8, 6), (11, 6)]), (70, 8, [(3, 2), (4, 2)]), (84, 3, [(5, 3)]), (84, 9, [(8, 6), (10, 6), (13, 6)]), (84, 11, [(12, 7), (14, 7)]), (86, 3, [(3, 0), (4, 3), (5, 3), (6, 3)]), (86, 7, [(3, 0), (6, 0)]), (89, 2, [(4, 1)]), (89, 6, [(7, 0), (7, 1), (10, 0), (10, 1)]), (90, 15, [(8, 5), (10, 5)]), (91, 15, [(7, 6), (10, 6), (12, 6)]), (93, 0, [(4, 1), (6, 4), (7, 1)]), (93, 4, [(5, 4), (7, 5)]), (93, 6, [(5, 0), (5, 1)]), (98, 2, [(7, 6)]), (98, 3, [(11, 10)])]
def needT (f r : Nat) : List (Nat × Nat) := ((needL.find? fun x => x.1 == f && x.2.1 == r).map fun x => x.2.2).getD []
def eqsOf : Nat → Option (List SK)
  | 27 => some [.int .i64, .int .i64]
  | 32 => some [.int .i64, .int .i64, .int .i64, .int .i64, .int .i64, .int .i64, .bool]
  | 99 => some [.int .i64, .int .i64]
  | 72 => some [.int .i64, .int .i64, .int .i64]
  | _ => none
@[simp] theorem eqsOf_27 : eqsOf 27 = some [.int .i64, .int .i64] := .trans rfl rfl
@[simp] theorem eqsOf_32 : eqsOf 32 = some [.int .i64, .int .i64, .int .i64, .int .i64, .int .i64, .int .i64, .bool] := .trans rfl rfl
@[simp] theorem eqsOf_99 : eqsOf 99 = some [.int .i64, .int .i64] := .trans rfl rfl
@[simp] theorem eqsOf_72 : eqsOf 72 = some [.int .i64, .int .i64, .int .i64] := .trans rfl rfl
noncomputable def KC (keep : Nat → Bool) : Ctx := { P := Try.prog, keep := keep, ann := annOf, up := upOf, own := fun _ _ => false, frz := fun f => !([99] : List Nat).contains f, eqs := eqsOf }
section
variable {keep : Nat → Bool}
@[simp] theorem KC_P : (KC keep).P = Try.prog := .trans rfl rfl
@[simp] theorem KC_own {f d : Nat} : (KC keep).own f d = false := .trans rfl rfl
@[simp] theorem KC_keep {f : Nat} : (KC keep).keep f = keep f := .trans rfl rfl
@[simp] theorem KC_ann_3_10 : (KC keep).ann 3 10 = some ([16, 17, 18, 19, 20], [12]) := by kernel_rfl
@[simp] theorem KC_ann_4_10 : (KC keep).ann 4 10 = some ([4, 5, 6, 7, 8, 10], [2, 4, 5, 6, 7]) := by kernel_rfl
@[simp] theorem KC_ann_4_15 : (KC keep).ann 4 15 = some ([4, 5, 6, 7, 11], [2]) := by kernel_rfl
@[simp] theorem KC_ann_5_5 : (KC keep).ann 5 5 = some ([3, 4, 5, 6], [3, 4, 5]) := by kernel_rfl
@[simp] theorem KC_ann_5_15 : (KC keep).ann 5 15 = some ([8, 9, 10, 12], [2]) := by kernel_rfl
@[simp] theorem KC_ann_6_9 : (KC keep).ann 6 9 = some ([3, 4, 5, 6, 7, 8, 9, 10], [4, 5, 6, 7, 8, 9]) := by kernel_rfl
@[simp] theorem KC_ann_6_18 : (KC keep).ann 6 18 = some ([4, 7, 8, 11, 13, 15, 17], [2]) := by kernel_rfl
@[simp] theorem KC_ann_7_7 : (KC keep).ann 7 7 = some ([3, 4, 5, 6, 7, 8], [3, 4, 5, 6, 7]) := by kernel_rfl
@[simp] theorem KC_ann_7_14 : (KC keep).ann 7 14 = some ([3, 4, 5, 7, 9, 11], [2, 3, 4, 5, 7]) := by kernel_rfl
@[simp] theorem KC_ann_7_23 : (KC keep).ann 7 23 = some ([12, 14], [2]) := by kernel_rfl
@[simp] theorem KC_ann_8_13 : (KC keep).ann 8 13 = some ([3, 5, 6, 7, 8, 9, 10, 11, 13, 15, 16, 17, 18], [2]) := by kernel_rfl
@[simp] theorem KC_ann_8_17 : (KC keep).ann 8 17 = some ([3, 5, 6, 7, 8, 9, 10, 11, 13, 15, 16, 17, 18], [3, 5, 6, 7, 8, 9, 10, 11, 13, 15, 16, 17, 18]) := by kernel_rfl
@[simp] theorem KC_ann_9_16 : (KC keep).ann 9 16 = some ([10, 12, 14, 16, 18, 20, 22], [2, 18, 20]) := by kernel_rfl
@[simp] theorem KC_ann_9_21 : (KC keep).ann 9 21 = some ([18, 20, 23], [2]) := by kernel_rfl
@[simp] theorem KC_ann_10_8 : (KC keep).ann 10 8 = some ([14, 15, 16, 17, 18], [10]) := by kernel_rfl
@[simp] theorem KC_ann_11_10 : (KC keep).ann 11 10 = some ([18, 19, 20, 21, 22, 23], [12]) := by kernel_rfl
@[simp] theorem KC_ann_12_11 : (KC keep).ann 12 11 = some ([4, 5, 6, 7, 8, 9, 10, 11, 12], [2, 10, 11]) := by kernel_rfl
@[simp] theorem KC_ann_12_15 : (KC keep).ann 12 15 = some ([4, 5, 6, 7, 8, 9, 10, 11, 12, 13, 14], [4, 5, 6, 7, 8, 9, 10, 11, 12, 13]) := by kernel_rfl
@[simp] theorem KC_ann_15_4 : (KC keep).ann 15 4 = some ([0, 3, 4], [3]) := by kernel_rfl
@[simp] theorem KC_ann_16_4 : (KC keep).ann 16 4 = some ([0, 4, 5, 6], [0, 4, 5]) := by kernel_rfl
@[simp] theorem KC_ann_16_9 : (KC keep).ann 16 9 = some ([0, 4, 5, 7, 8], [4, 5]) := by kernel_rfl
@[simp] theorem KC_ann_20_5 : (KC keep).ann 20 5 = some ([0, 3, 9, 10, 11, 12], [9]) := by kernel_rfl
@[simp] theorem KC_ann_23_7 : (KC keep).ann 23 7 = some ([5, 14, 15, 16], [5]) := by kernel_rfl
@[simp] theorem KC_ann_27_5 : (KC keep).ann 27 5 = some ([1, 14, 15, 16], [1, 2]) := by kernel_rfl
@[simp] theorem KC_ann_27_15 : (KC keep).ann 27 15 = some ([6, 35, 36, 37], [2]) := by kernel_rfl
@[simp] theorem KC_ann_28_5 : (KC keep).ann 28 5 = some ([1, 3], [1, 2]) := by kernel_rfl
@[simp] theorem KC_ann_28_20 : (KC keep).ann 28 20 = some ([1, 8], [2]) := by kernel_rfl
@[simp] theorem KC_ann_31_9 : (KC keep).ann 31 9 = some ([6, 7, 20, 21, 22], [4]) := by kernel_rfl
@[simp] theorem KC_ann_32_9 : (KC keep).ann 32 9 = some ([1, 6, 7], [4]) := by kernel_rfl
@[simp] theorem KC_ann_33_5 : (KC keep).ann 33 5 = some ([0, 1, 5], [4]) := by kernel_rfl
@[simp] theorem KC_ann_34_5 : (KC keep).ann 34 5 = some ([2, 3, 5], [2, 3, 4]) := by kernel_rfl
@[simp] theorem KC_ann_34_10 : (KC keep).ann 34 10 = some ([2, 3, 6], [4]) := by kernel_rfl
@[simp] theorem KC_ann_35_5 : (KC keep).ann 35 5 = some ([0, 1, 5], [4]) := by kernel_rfl
@[simp] theorem KC_ann_36_5 : (KC keep).ann 36 5 = some ([0, 3, 4, 5, 6, 7], [4, 5]) := by kernel_rfl
@[simp] theorem KC_ann_37_4 : (KC keep).ann 37 4 = some ([0, 3, 5, 6], [5]) := by kernel_rfl
@[simp] theorem KC_ann_38_4 : (KC keep).ann 38 4 = some ([2, 3, 5, 6], [2, 3, 5]) := by kernel_rfl
@[simp] theorem KC_ann_38_10 : (KC keep).ann 38 10 = some ([2, 3, 5, 7], [5]) := by kernel_rfl
@[simp] theorem KC_ann_38_13 : (KC keep).ann 38 13 = some ([2, 3, 5, 7, 8], [2, 3, 5, 7]) := by kernel_rfl
@[simp] theorem KC_ann_38_17 : (KC keep).ann 38 17 = some ([2, 3, 5, 7, 8, 9, 10], [2, 3, 5, 7, 8]) := by kernel_rfl
@[simp] theorem KC_ann_40_4 : (KC keep).ann 40 4 = some ([1, 2, 3, 4, 9, 10], [9]) := by kernel_rfl
@[simp] theorem KC_ann_46_7 : (KC keep).ann 46 7 = some ([4, 12, 26, 27, 28], [12]) := by kernel_rfl
@[simp] theorem KC_ann_50_4 : (KC keep).ann 50 4 = some ([0, 3, 4, 5, 6], [4, 5]) := by kernel_rfl
@[simp] theorem KC_ann_54_7 : (KC keep).ann 54 7 = some ([4, 10, 12, 13], [12]) := by kernel_rfl
@[simp] theorem KC_ann_55_7 : (KC keep).ann 55 7 = some ([8, 9, 25, 26, 27], [8, 9]) := by kernel_rfl
@[simp] theorem KC_ann_56_7 : (KC keep).ann 56 7 = some ([11, 13, 14, 15], [13, 14]) := by kernel_rfl
@[simp] theorem KC_ann_57_5 : (KC keep).ann 57 5 = some ([0, 1, 5], [4]) := by kernel_rfl
@[simp] theorem KC_ann_58_16 : (KC keep).ann 58 16 = some ([13, 14, 43, 44], [10, 11]) := by kernel_rfl
@[simp] theorem KC_ann_59_12 : (KC keep).ann 59 12 = some ([2, 3, 4, 5, 6, 13], [10, 11]) := by kernel_rfl
@[simp] theorem KC_ann_60_4 : (KC keep).ann 60 4 = some ([1, 2, 4, 5, 6], [1, 2, 4, 5]) := by kernel_rfl
@[simp] theorem KC_ann_60_9 : (KC keep).ann 60 9 = some ([1, 2, 4, 5, 7, 8], [2, 4, 5, 7]) := by kernel_rfl
@[simp] theorem KC_ann_60_14 : (KC keep).ann 60 14 = some ([2, 4, 5, 7, 9], [4, 7]) := by kernel_rfl
@[simp] theorem KC_ann_61_3 : (KC keep).ann 61 3 = some ([0, 1, 5], [4]) := by kernel_rfl
@[simp] theorem KC_ann_62_3 : (KC keep).ann 62 3 = some ([0, 1, 5], [4]) := by kernel_rfl
@[simp] theorem KC_ann_68_5 : (KC keep).ann 68 5 = some ([3, 4, 17, 18], [4]) := by kernel_rfl
@[simp] theorem KC_ann_68_9 : (KC keep).ann 68 9 = some ([3, 4, 5, 6, 17, 18, 22], [3, 4, 6, 17, 18]) := by kernel_rfl
@[simp] theorem KC_ann_70_4 : (KC keep).ann 70 4 = some ([1, 3, 4, 5], [1, 3, 4]) := by kernel_rfl
@[simp] theorem KC_ann_70_12 : (KC keep).ann 70 12 = some ([7, 8, 9, 10], [9]) := by kernel_rfl
@[simp] theorem KC_ann_72_4 : (KC keep).ann 72 4 = some ([1, 2, 6, 7, 12, 13, 14], [6, 7]) := by kernel_rfl
@[simp] theorem KC_ann_74_4 : (KC keep).ann 74 4 = some ([1, 2, 3, 6, 7, 8], [6, 7]) := by kernel_rfl
@[simp] theorem KC_ann_84_6 : (KC keep).ann 84 6 = some ([2, 3, 4, 5, 9, 10, 11, 12, 13, 14], [10]) := by kernel_rfl
@[simp] theorem KC_ann_84_11 : (KC keep).ann 84 11 = some ([2, 3, 4, 5, 9, 10, 11, 12, 13, 14], [2, 3, 4, 5, 9, 10, 11, 12, 13, 14]) := by kernel_rfl
@[simp] theorem KC_ann_86_6 : (KC keep).ann 86 6 = some ([0, 2, 5, 9, 14], [13]) := by kernel_rfl
@[simp] theorem KC_ann_88_5 : (KC keep).ann 88 5 = some ([2, 4, 5, 6, 16, 17, 18], [2, 4, 5, 6]) := by kernel_rfl
@[simp] theorem KC_ann_88_11 : (KC keep).ann 88 11 = some ([4, 5, 6, 38, 39, 40], [4, 5]) := by kernel_rfl
@[simp] theorem KC_ann_89_5 : (KC keep).ann 89 5 = some ([2, 3, 4, 5, 7, 8, 9, 18], [16, 17]) := by kernel_rfl
@[simp] theorem KC_ann_90_4 : (KC keep).ann 90 4 = some ([2, 3, 5, 16, 17, 18], [2, 3, 5]) := by kernel_rfl
@[simp] theorem KC_ann_90_11 : (KC keep).ann 90 11 = some ([2, 5, 8, 9], [5]) := by kernel_rfl
@[simp] theorem KC_ann_90_14 : (KC keep).ann 90 14 = some ([2, 5, 8, 9, 31, 32, 33], [2, 5, 8, 9]) := by kernel_rfl
@[simp] theorem KC_ann_91_4 : (KC keep).ann 91 4 = some ([2, 3, 5, 6], [2, 3, 5]) := by kernel_rfl
@[simp] theorem KC_ann_91_10 : (KC keep).ann 91 10 = some ([2, 3, 5, 7], [5]) := by kernel_rfl
@[simp] theorem KC_ann_91_13 : (KC keep).ann 91 13 = some ([2, 3, 5, 7, 8], [2, 3, 5, 7]) := by kernel_rfl
@[simp] theorem KC_ann_92_4 : (KC keep).ann 92 4 = some ([2, 3, 8, 9, 10], [2, 3]) := by kernel_rfl
@[simp] theorem KC_ann_92_7 : (KC keep).ann 92 7 = some ([2, 3, 8, 9, 10, 14, 15], [2, 3, 8, 9, 10]) := by kernel_rfl
@[simp] theorem KC_ann_93_4 : (KC keep).ann 93 4 = some ([0, 1, 2, 3, 5, 6, 7], [0, 1, 2, 3, 5, 6, 7]) := by kernel_rfl
@[simp] theorem KC_ann_93_100004 : (KC keep).ann 93 100004 = some ([0, 1, 2, 3, 5, 6, 7], []) := by kernel_rfl
@[simp] theorem KC_ann_95_4 : (KC keep).ann 95 4 = some ([2, 3, 4, 11, 12], [2, 3, 4]) := by kernel_rfl
@[simp] theorem KC_ann_96_3 : (KC keep).ann 96 3 = some ([3, 4, 5, 6, 11, 12], [3, 6]) := by kernel_rfl
@[simp] theorem KC_ann_97_4 : (KC keep).ann 97 4 = some ([4, 5, 11, 12], [10]) := by kernel_rfl
@[simp] theorem KC_up_5_34 : (KC keep).up 5 34 = .box 4 := by kernel_rfl
@[simp] theorem KC_up_5_41 : (KC keep).up 5 41 = .box 4 := by kernel_rfl
@[simp] theorem KC_up_5_50 : (KC keep).up 5 50 = .box 5 := by kernel_rfl
@[simp] theorem KC_up_5_57 : (KC keep).up 5 57 = .box 5 := by kernel_rfl
@[simp] theorem KC_up_6_47 : (KC keep).up 6 47 = .box 8 := by kernel_rfl
@[simp] theorem KC_up_12_81 : (KC keep).up 12 81 = .scopes 1 := by kernel_rfl
@[simp] theorem KC_up_16_33 : (KC keep).up 16 33 = .box 5 := by kernel_rfl
@[simp] theorem KC_up_16_67 : (KC keep).up 16 67 = .box 5 := by kernel_rfl
@[simp] theorem KC_up_20_54 : (KC keep).up 20 54 = .scopes 1 := by kernel_rfl
@[simp] theorem KC_up_21_6 : (KC keep).up 21 6 = .scopes 0 := by kernel_rfl
@[simp] theorem KC_up_21_10 : (KC keep).up 21 10 = .scopes 0 := by kernel_rfl
@[simp] theorem KC_up_22_5 : (KC keep).up 22 5 = .scopes 0 := by kernel_rfl
@[simp] theorem KC_up_23_24 : (KC keep).up 23 24 = .scopes 1 := by kernel_rfl
@[simp] theorem KC_up_36_54 : (KC keep).up 36 54 = .box 5 := by kernel_rfl
@[simp] theorem KC_up_36_59 : (KC keep).up 36 59 = .box 5 := by kernel_rfl
@[simp] theorem KC_up_37_24 : (KC keep).up 37 24 = .scopes 1 := by kernel_rfl
@[simp] theorem KC_up_44_31 : (KC keep).up 44 31 = .box 11 := by kernel_rfl
@[simp] theorem KC_up_46_37 : (KC keep).up 46 37 = .scopes 1 := by kernel_rfl
@[simp] theorem KC_up_50_41 : (KC keep).up 50 41 = .box 5 := by kernel_rfl
@[simp] theorem KC_up_54_39 : (KC keep).up 54 39 = .scopes 1 := by kernel_rfl
@[simp] theorem KC_up_60_49 : (KC keep).up 60 49 = .box 7 := by kernel_rfl
@[simp] theorem KC_up_60_88 : (KC keep).up 60 88 = .box 7 := by kernel_rfl
@[simp] theorem KC_up_68_41 : (KC keep).up 68 41 = .scopes 1 := by kernel_rfl
@[simp] theorem KC_up_70_29 : (KC keep).up 70 29 = .box 3 := by kernel_rfl
@[simp] theorem KC_up_70_36 : (KC keep).up 70 36 = .box 3 := by kernel_rfl
@[simp] theorem KC_up_70_45 : (KC keep).up 70 45 = .box 4 := by kernel_rfl
@[simp] theorem KC_up_70_52 : (KC keep).up 70 52 = .box 4 := by kernel_rfl
@[simp] theorem KC_up_70_78 : (KC keep).up 70 78 = .scopes 1 := by kernel_rfl
@[simp] theorem KC_up_72_78 : (KC keep).up 72 78 = .scopes 1 := by kernel_rfl
@[simp] theorem KC_up_84_95 : (KC keep).up 84 95 = .scopes 1 := by kernel_rfl
@[simp] theorem KC_up_86_37 : (KC keep).up 86 37 = .scopes 0 := by kernel_rfl
@[simp] theorem KC_up_86_40 : (KC keep).up 86 40 = .scopes 0 := by kernel_rfl
@[simp] theorem KC_up_88_34 : (KC keep).up 88 34 = .box 5 := by kernel_rfl
@[simp] theorem KC_up_88_68 : (KC keep).up 88 68 = .box 5 := by kernel_rfl
@[simp] theorem KC_up_89_48 : (KC keep).up 89 48 = .scopes 0 := by kernel_rfl
@[simp] theorem KC_up_89_51 : (KC keep).up 89 51 = .scopes 0 := by kernel_rfl
@[simp] theorem KC_up_91_27 : (KC keep).up 91 27 = .scopes 1 := by kernel_rfl
@[simp] theorem KC_up_91_30 : (KC keep).up 91 30 = .scopes 1 := by kernel_rfl
@[simp] theorem need_3_6 : needT 3 6 = [(6, 1), (7, 6)] := by kernel_rfl
@[simp] theorem need_3_7 : needT 3 7 = [(11, 0), (11, 1), (11, 2), (11, 4), (11, 5), (11, 6), (16, 0), (16, 1), (16, 2), (16, 4), (16, 5), (16, 6)] := by kernel_rfl
@[simp] theorem need_3_11 : needT 3 11 = [(8, 4)] := by kernel_rfl
@[simp] theorem need_3_14 : needT 3 14 = [] := by kernel_rfl
@[simp] theorem need_3_15 : needT 3 15 = [] := by kernel_rfl
@[simp] theorem need_3_16 : needT 3 16 = [(5, 1), (17, 13), (31, 27), (35, 27)] := by kernel_rfl
@[simp] theorem need_3_18 : needT 3 18 = [] := by kernel_rfl
@[simp] theorem need_4_3 : needT 4 3 = [(4, 2)] := by kernel_rfl
@[simp] theorem need_4_11 : needT 4 11 = [] := by kernel_rfl
@[simp] theorem need_4_17 : needT 4 17 = [(8, 3)] := by kernel_rfl
@[simp] theorem need_5_7 : needT 5 7 = [(8, 6), (11, 6)] := by kernel_rfl
@[simp] theorem need_5_8 : needT 5 8 = [(8, 6), (11, 6)] := by kernel_rfl
@[simp] theorem need_5_9 : needT 5 9 = [(3, 2), (4, 2)] := by kernel_rfl
@[simp] theorem need_5_16 : needT 5 16 = [(12, 3)] := by kernel_rfl
@[simp] theorem need_6_5 : needT 6 5 = [(3, 1), (5, 1), (7, 1), (9, 1)] := by kernel_rfl
@[simp] theorem need_6_21 : needT 6 21 = [] := by kernel_rfl
@[simp] theorem need_7_15 : needT 7 15 = [(6, 3)] := by kernel_rfl
@[simp] theorem need_7_24 : needT 7 24 = [] := by kernel_rfl
@[simp] theorem need_8_4 : needT 8 4 = [(4, 2)] := by kernel_rfl
@[simp] theorem need_8_10 : needT 8 10 = [(5, 3)] := by kernel_rfl
@[simp] theorem need_8_15 : needT 8 15 = [(9, 1)] := by kernel_rfl
@[simp] theorem need_9_4 : needT 9 4 = [(3, 2), (6, 3)] := by kernel_rfl
@[simp] theorem need_9_17 : needT 9 17 = [] := by kernel_rfl
@[simp] theorem need_9_22 : needT 9 22 = [] := by kernel_rfl
@[simp] theorem need_10_5 : needT 10 5 = [(11, 0), (11, 1), (11, 2), (11, 4), (11, 5), (11, 6), (16, 0), (16, 1), (16, 2), (16, 4), (16, 5), (16, 6)] := by kernel_rfl
@[simp] theorem need_10_9 : needT 10 9 = [] := by kernel_rfl
@[simp] theorem need_10_10 : needT 10 10 = [] := by kernel_rfl
@[simp] theorem need_10_11 : needT 10 11 = [] := by kernel_rfl
@[simp] theorem need_10_12 : needT 10 12 = [] := by kernel_rfl
@[simp] theorem need_10_13 : needT 10 13 = [] := by kernel_rfl
@[simp] theorem need_10_14 : needT 10 14 = [] := by kernel_rfl
@[simp] theorem need_11_7 : needT 11 7 = [(11, 0), (11, 1), (11, 2), (11, 4), (11, 5), (11, 6), (21, 0), (21, 1), (21, 2), (21, 4), (21, 5), (21, 6)] := by kernel_rfl
@[simp] theorem need_11_12 : needT 11 12 = [] := by kernel_rfl
@[simp] theorem need_11_13 : needT 11 13 = [] := by kernel_rfl
@[simp] theorem need_11_14 : needT 11 14 = [] := by kernel_rfl
@[simp] theorem need_12_18 : needT 12 18 = [(3, 0)] := by kernel_rfl
@[simp] theorem need_14_4 : needT 14 4 = [(20, 19)] := by kernel_rfl
@[simp] theorem need_15_5 : needT 15 5 = [] := by kernel_rfl
@[simp] theorem need_16_5 : needT 16 5 = [(3, 1), (5, 1), (9, 1), (10, 1), (12, 1)] := by kernel_rfl
@[simp] theorem need_16_11 : needT 16 11 = [(7, 1), (10, 1)] := by kernel_rfl
@[simp] theorem need_21_1 : needT 21 1 = [(6, 3)] := by kernel_rfl
@[simp] theorem need_25_6 : needT 25 6 = [(2, 0)] := by kernel_rfl
@[simp] theorem need_26_6 : needT 26 6 = [(2, 0)] := by kernel_rfl
@[simp] theorem need_32_13 : needT 32 13 = [] := by kernel_rfl
@[simp] theorem need_33_6 : needT 33 6 = [] := by kernel_rfl
@[simp] theorem need_34_6 : needT 34 6 = [] := by kernel_rfl
@[simp] theorem need_34_11 : needT 34 11 = [] := by kernel_rfl
@[simp] theorem need_35_6 : needT 35 6 = [] := by kernel_rfl
@[simp] theorem need_36_7 : needT 36 7 = [(6, 3)] := by kernel_rfl
@[simp] theorem need_36_10 : needT 36 10 = [] := by kernel_rfl
@[simp] theorem need_36_12 : needT 36 12 = [] := by kernel_rfl
@[simp] theorem need_36_13 : needT 36 13 = [(6, 4)] := by kernel_rfl
@[simp] theorem need_38_14 : needT 38 14 = [] := by kernel_rfl
@[simp] theorem need_38_18 : needT 38 18 = [] := by kernel_rfl
@[simp] theorem need_38_19 : needT 38 19 = [] := by kernel_rfl
@[simp] theorem need_40_5 : needT 40 5 = [] := by kernel_rfl
@[simp] theorem need_49_4 : needT 49 4 = [(9, 5)] := by kernel_rfl
@[simp] theorem need_50_6 : needT 50 6 = [(5, 1), (8, 5), (9, 1), (12, 5), (12, 9), (13, 1), (15, 5), (15, 9), (15, 13)] := by kernel_rfl
@[simp] theorem need_51_1 : needT 51 1 = [(4, 2)] := by kernel_rfl
@[simp] theorem need_54_8 : needT 54 8 = [] := by kernel_rfl
@[simp] theorem need_57_6 : needT 57 6 = [] := by kernel_rfl
@[simp] theorem need_60_11 : needT 60 11 = [] := by kernel_rfl
@[simp] theorem need_60_15 : needT 60 15 = [] := by kernel_rfl
@[simp] theorem need_62_4 : needT 62 4 = [] := by kernel_rfl
@[simp] theorem need_62_5 : needT 62 5 = [] := by kernel_rfl
@[simp] theorem need_68_1 : needT 68 1 = [(2, 1)] := by kernel_rfl
@[simp] theorem need_70_6 : needT 70 6 = [(8, 6), (11, 6)] := by kernel_rfl
@[simp] theorem need_70_7 : needT 70 7 = [(8, 6), (11, 6)] := by kernel_rfl
@[simp] theorem need_70_8 : needT 70 8 = [(3, 2), (4, 2)] := by kernel_rfl
@[simp] theorem need_70_13 : needT 70 13 = [] := by kernel_rfl
@[simp] theorem need_72_6 : needT 72 6 = [] := by kernel_rfl
@[simp] theorem need_72_8 : needT 72 8 = [] := by kernel_rfl
@[simp] theorem need_74_6 : needT 74 6 = [] := by kernel_rfl
@[simp] theorem need_74_8 : needT 74 8 = [] := by kernel_rfl
@[simp] theorem need_84_3 : needT 84 3 = [(5, 3)] := by kernel_rfl
@[simp] theorem need_84_9 : needT 84 9 = [(8, 6), (10, 6), (13, 6)] := by kernel_rfl
@[simp] theorem need_84_11 : needT 84 11 = [(12, 7), (14, 7)] := by kernel_rfl
@[simp] theorem need_86_3 : needT 86 3 = [(3, 0), (4, 3), (5, 3), (6, 3)] := by kernel_rfl
@[simp] theorem need_86_7 : needT 86 7 = [(3, 0), (6, 0)] := by kernel_rfl
@[simp] theorem need_88_7 : needT 88 7 = [] := by kernel_rfl
@[simp] theorem need_89_2 : needT 89 2 = [(4, 1)] := by kernel_rfl
@[simp] theorem need_89_6 : needT 89 6 = [(7, 0), (7, 1), (10, 0), (10, 1)] := by kernel_rfl
@[simp] theorem need_90_15 : needT 90 15 = [(8, 5), (10, 5)] := by kernel_rfl
@[simp] theorem need_91_15 : needT 91 15 = [(7, 6), (10, 6), (12, 6)] := by kernel_rfl
@[simp] theorem need_93_0 : needT 93 0 = [(4, 1), (6, 4), (7, 1)] := by kernel_rfl
@[simp] theorem need_93_4 : needT 93 4 = [(5, 4), (7, 5)] := by kernel_rfl
@[simp] theorem need_93_6 : needT 93 6 = [(5, 0), (5, 1)] := by kernel_rfl
@[simp] theorem need_96_4 : needT 96 4 = [] := by kernel_rfl
@[simp] theorem need_97_5 : needT 97 5 = [] := by kernel_rfl
@[simp] theorem need_98_2 : needT 98 2 = [(7, 6)] := by kernel_rfl
@[simp] theorem need_98_3 : needT 98 3 = [(11, 10)] := by kernel_rfl
@[simp] theorem need_99_1 : needT 99 1 = [] := by kernel_rfl
@[simp] theorem need_99_3 : needT 99 3 = [] := by kernel_rfl
@[simp] theorem KC_eqs {t : Nat} : (KC keep).eqs t = eqsOf t := .trans rfl rfl
end

@[simp] theorem ty_agg3 : tagg Try.prog 3 = some false := by kernel_rfl
@[simp] theorem ty_size3 : tsize Try.prog 3 = some 1 := by kernel_rfl
@[simp] theorem ty_zero3 : tzero Try.prog 3 = some (.pure (.int .i64 0)) := by kernel_rfl
@[simp] theorem ty_arr3 : tarrS Try.prog 3 = none := by kernel_rfl
@[simp] theorem ty_spread3 : spreads Try.prog (some 3) = false := by kernel_rfl
@[simp] theorem ty_und3 : Try.prog.underlying 3 = some (.int .i64) := by kernel_rfl
@[simp] theorem ty_key3 (n : Int) : keyFits Try.prog 3 (.int .i64 n) = true := by kernel_rfl
@[simp] theorem ty_agg4 : tagg Try.prog 4 = some false := by kernel_rfl
@[simp] theorem ty_size4 : tsize Try.prog 4 = some 1 := by kernel_rfl
@[simp] theorem ty_zero4 : tzero Try.prog 4 = some (.pure (.bool false)) := by kernel_rfl
@[simp] theorem ty_arr4 : tarrS Try.prog 4 = none := by kernel_rfl
@[simp] theorem ty_spread4 : spreads Try.prog (some 4) = false := by kernel_rfl
@[simp] theorem ty_und4 : Try.prog.underlying 4 = some .bool := by kernel_rfl
@[simp] theorem ty_agg22 : tagg Try.prog 22 = some false := by kernel_rfl
@[simp] theorem ty_size22 : tsize Try.prog 22 = some 1 := by kernel_rfl
@[simp] theorem ty_zero22 : tzero Try.prog 22 = some .nils := by kernel_rfl
@[simp] theorem ty_elem22 : telemS Try.prog 22 = some (some 7) := by kernel_rfl
@[simp] theorem ty_arr22 : tarrS Try.prog 22 = none := by kernel_rfl
@[simp] theorem ty_app22 : tapp Try.prog 22 = some ((some 7), (some 56), (some 7)) := by kernel_rfl
@[simp] theorem ty_lit22 : tlit Try.prog 22 = some ((some 7), (some [(.pure (.int .i64 0)), (.pure (.int .i64 0)), (.pure (.int .i64 0)), (.pure (.int .i64 0)), (.pure (.int .i64 0)), (.pure (.int .i64 0)), (.pure (.bool false))])) := by kernel_rfl
@[simp] theorem ty_mk22 : tmk Try.prog 22 = some ((some 7), (some 56), (some [(.int .i64 0), (.int .i64 0), (.int .i64 0), (.int .i64 0), (.int .i64 0), (.int .i64 0), (.bool false)])) := by kernel_rfl
@[simp] theorem ty_spread22 : spreads Try.prog (some 22) = true := by kernel_rfl
@[simp] theorem ty_und22 : Try.prog.underlying 22 = some (.slice 32) := by kernel_rfl
@[simp] theorem ty_agg23 : tagg Try.prog 23 = some false := by kernel_rfl
@[simp] theorem ty_size23 : tsize Try.prog 23 = some 1 := by kernel_rfl
@[simp] theorem ty_zero23 : tzero Try.prog 23 = some .nils := by kernel_rfl
@[simp] theorem ty_elem23 : telemS Try.prog 23 = some (some 2) := by kernel_rfl
@[simp] theorem ty_arr23 : tarrS Try.prog 23 = none := by kernel_rfl
@[simp] theorem ty_app23 : tapp Try.prog 23 = some ((some 2), (some 16), (some 2)) := by kernel_rfl
@[simp] theorem ty_lit23 : tlit Try.prog 23 = some ((some 2), (some [(.pure (.int .i64 0)), (.pure (.int .i64 0))])) := by kernel_rfl
@[simp] theorem ty_mk23 : tmk Try.prog 23 = some ((some 2), (some 16), (some [(.int .i64 0), (.int .i64 0)])) := by kernel_rfl
@[simp] theorem ty_spread23 : spreads Try.prog (some 23) = true := by kernel_rfl
@[simp] theorem ty_und23 : Try.prog.underlying 23 = some (.slice 99) := by kernel_rfl
@[simp] theorem ty_agg25 : tagg Try.prog 25 = some true := by kernel_rfl
@[simp] theorem ty_size25 : tsize Try.prog 25 = some 2 := by kernel_rfl
@[simp] theorem ty_zero25 : tzero Try.prog 25 = some (.agg [.nils, .nils]) := by kernel_rfl
@[simp] theorem ty_arr25 : tarrS Try.prog 25 = none := by kernel_rfl
@[simp] theorem ty_places25 : tplaces Try.prog 25 = some [(0, 1), (1, 1)] := by kernel_rfl
@[simp] theorem ty_spread25 : spreads Try.prog (some 25) = false := by kernel_rfl
@[simp] theorem ty_agg27 : tagg Try.prog 27 = some true := by kernel_rfl
@[simp] theorem ty_size27 : tsize Try.prog 27 = some 2 := by kernel_rfl
@[simp] theorem ty_zero27 : tzero Try.prog 27 = some (.pure (.agg [(.int .i64 0), (.int .i64 0)])) := by kernel_rfl
@[simp] theorem ty_arr27 : tarrS Try.prog 27 = none := by kernel_rfl
@[simp] theorem ty_places27 : tplaces Try.prog 27 = some [(0, 1), (1, 1)] := by kernel_rfl
@[simp] theorem ty_spread27 : spreads Try.prog (some 27) = false := by kernel_rfl
@[simp] theorem ty_agg29 : tagg Try.prog 29 = some true := by kernel_rfl
@[simp] theorem ty_size29 : tsize Try.prog 29 = some 8 := by kernel_rfl
@[simp] theorem ty_zero29 : tzero Try.prog 29 = some (.pure (.agg [(.int .i64 0), (.int .i64 0), (.int .i64 0), (.int .i64 0), (.int .i64 0), (.int .i64 0), (.int .i64 0), (.int .i64 0)])) := by kernel_rfl
@[simp] theorem ty_arr29 : tarrS Try.prog 29 = none := by kernel_rfl
@[simp] theorem ty_places29 : tplaces Try.prog 29 = some [(0, 1), (1, 2), (3, 1), (4, 1), (5, 1), (6, 1), (7, 1)] := by kernel_rfl
@[simp] theorem ty_spread29 : spreads Try.prog (some 29) = false := by kernel_rfl
@[simp] theorem ty_agg30 : tagg Try.prog 30 = some false := by kernel_rfl
@[simp] theorem ty_size30 : tsize Try.prog 30 = some 1 := by kernel_rfl
@[simp] theorem ty_zero30 : tzero Try.prog 30 = some .nils := by kernel_rfl
@[simp] theorem ty_elem30 : telemS Try.prog 30 = some (some 3) := by kernel_rfl
@[simp] theorem ty_arr30 : tarrS Try.prog 30 = none := by kernel_rfl
@[simp] theorem ty_app30 : tapp Try.prog 30 = some ((some 3), (some 24), (some 3)) := by kernel_rfl
@[simp] theorem ty_lit30 : tlit Try.prog 30 = some ((some 3), (some [(.pure (.int .i64 0)), (.pure (.int .i64 0)), (.pure (.int .i64 0))])) := by kernel_rfl
@[simp] theorem ty_mk30 : tmk Try.prog 30 = some ((some 3), (some 24), (some [(.int .i64 0), (.int .i64 0), (.int .i64 0)])) := by kernel_rfl
@[simp] theorem ty_spread30 : spreads Try.prog (some 30) = true := by kernel_rfl
@[simp] theorem ty_und30 : Try.prog.underlying 30 = some (.slice 72) := by kernel_rfl
@[simp] theorem ty_agg32 : tagg Try.prog 32 = some true := by kernel_rfl
@[simp] theorem ty_size32 : tsize Try.prog 32 = some 7 := by kernel_rfl
@[simp] theorem ty_zero32 : tzero Try.prog 32 = some (.pure (.agg [(.int .i64 0), (.int .i64 0), (.int .i64 0), (.int .i64 0), (.int .i64 0), (.int .i64 0), (.bool false)])) := by kernel_rfl
@[simp] theorem ty_arr32 : tarrS Try.prog 32 = none := by kernel_rfl
@[simp] theorem ty_places32 : tplaces Try.prog 32 = some [(0, 2), (2, 2), (4, 2), (6, 1)] := by kernel_rfl
@[simp] theorem ty_spread32 : spreads Try.prog (some 32) = false := by kernel_rfl
@[simp] theorem ty_agg33 : tagg Try.prog 33 = some false := by kernel_rfl
@[simp] theorem ty_size33 : tsize Try.prog 33 = some 1 := by kernel_rfl
@[simp] theorem ty_zero33 : tzero Try.prog 33 = some .nils := by kernel_rfl
@[simp] theorem ty_elem33 : telemS Try.prog 33 = some (some 1) := by kernel_rfl
@[simp] theorem ty_arr33 : tarrS Try.prog 33 = none := by kernel_rfl
@[simp] theorem ty_app33 : tapp Try.prog 33 = some ((some 1), (some 8), (some 1)) := by kernel_rfl
@[simp] theorem ty_lit33 : tlit Try.prog 33 = some ((some 1), (some [(.pure (.int .i64 0))])) := by kernel_rfl
@[simp] theorem ty_mk33 : tmk Try.prog 33 = some ((some 1), (some 8), (some [(.int .i64 0)])) := by kernel_rfl
@[simp] theorem ty_spread33 : spreads Try.prog (some 33) = true := by kernel_rfl
@[simp] theorem ty_und33 : Try.prog.underlying 33 = some (.slice 3) := by kernel_rfl
@[simp] theorem ty_agg36 : tagg Try.prog 36 = some false := by kernel_rfl
@[simp] theorem ty_size36 : tsize Try.prog 36 = some 1 := by kernel_rfl
@[simp] theorem ty_zero36 : tzero Try.prog 36 = some (.pure .nilp) := by kernel_rfl
@[simp] theorem ty_arr36 : tarrS Try.prog 36 = none := by kernel_rfl
@[simp] theorem ty_spread36 : spreads Try.prog (some 36) = false := by kernel_rfl
@[simp] theorem ty_agg42 : tagg Try.prog 42 = some false := by kernel_rfl
@[simp] theorem ty_size42 : tsize Try.prog 42 = some 1 := by kernel_rfl
@[simp] theorem ty_zero42 : tzero Try.prog 42 = some .nils := by kernel_rfl
@[simp] theorem ty_elem42 : telemS Try.prog 42 = some (some 2) := by kernel_rfl
@[simp] theorem ty_arr42 : tarrS Try.prog 42 = none := by kernel_rfl
@[simp] theorem ty_app42 : tapp Try.prog 42 = some ((some 2), (some 48), (some 2)) := by kernel_rfl
@[simp] theorem ty_lit42 : tlit Try.prog 42 = some ((some 2), (some [.nils, .nils])) := by kernel_rfl
@[simp] theorem ty_mk42 : tmk Try.prog 42 = some ((some 2), (some 48), (some [(.slice []), (.slice [])])) := by kernel_rfl
@[simp] theorem ty_spread42 : spreads Try.prog (some 42) = true := by kernel_rfl
@[simp] theorem ty_und42 : Try.prog.underlying 42 = some (.slice 25) := by kernel_rfl
@[simp] theorem ty_agg43 : tagg Try.prog 43 = some false := by kernel_rfl
@[simp] theorem ty_size43 : tsize Try.prog 43 = some 1 := by kernel_rfl
@[simp] theorem ty_zero43 : tzero Try.prog 43 = some .nils := by kernel_rfl
@[simp] theorem ty_elem43 : telemS Try.prog 43 = some (some 8) := by kernel_rfl
@[simp] theorem ty_arr43 : tarrS Try.prog 43 = none := by kernel_rfl
@[simp] theorem ty_app43 : tapp Try.prog 43 = some ((some 8), (some 64), (some 8)) := by kernel_rfl
@[simp] theorem ty_lit43 : tlit Try.prog 43 = some ((some 8), (some [(.pure (.int .i64 0)), (.pure (.int .i64 0)), (.pure (.int .i64 0)), (.pure (.int .i64 0)), (.pure (.int .i64 0)), (.pure (.int .i64 0)), (.pure (.int .i64 0)), (.pure (.int .i64 0))])) := by kernel_rfl
@[simp] theorem ty_mk43 : tmk Try.prog 43 = some ((some 8), (some 64), (some [(.int .i64 0), (.int .i64 0), (.int .i64 0), (.int .i64 0), (.int .i64 0), (.int .i64 0), (.int .i64 0), (.int .i64 0)])) := by kernel_rfl
@[simp] theorem ty_spread43 : spreads Try.prog (some 43) = true := by kernel_rfl
@[simp] theorem ty_und43 : Try.prog.underlying 43 = some (.slice 29) := by kernel_rfl
@[simp] theorem ty_agg45 : tagg Try.prog 45 = some false := by kernel_rfl
@[simp] theorem ty_size45 : tsize Try.prog 45 = some 1 := by kernel_rfl
@[simp] theorem ty_zero45 : tzero Try.prog 45 = some .nils := by kernel_rfl
@[simp] theorem ty_elem45 : telemS Try.prog 45 = some (some 1) := by kernel_rfl
@[simp] theorem ty_arr45 : tarrS Try.prog 45 = none := by kernel_rfl
@[simp] theorem ty_app45 : tapp Try.prog 45 = some ((some 1), (some 24), (some 1)) := by kernel_rfl
@[simp] theorem ty_lit45 : tlit Try.prog 45 = some ((some 1), (some [.nils])) := by kernel_rfl
@[simp] theorem ty_mk45 : tmk Try.prog 45 = some ((some 1), (some 24), (some [(.slice [])])) := by kernel_rfl
@[simp] theorem ty_spread45 : spreads Try.prog (some 45) = true := by kernel_rfl
@[simp] theorem ty_und45 : Try.prog.underlying 45 = some (.slice 30) := by kernel_rfl
@[simp] theorem ty_agg48 : tagg Try.prog 48 = some false := by kernel_rfl
@[simp] theorem ty_size48 : tsize Try.prog 48 = some 1 := by kernel_rfl
@[simp] theorem ty_zero48 : tzero Try.prog 48 = some .nils := by kernel_rfl
@[simp] theorem ty_elem48 : telemS Try.prog 48 = some (some 2) := by kernel_rfl
@[simp] theorem ty_arr48 : tarrS Try.prog 48 = none := by kernel_rfl
@[simp] theorem ty_app48 : tapp Try.prog 48 = some ((some 2), (some 16), (some 2)) := by kernel_rfl
@[simp] theorem ty_lit48 : tlit Try.prog 48 = some ((some 2), (some [(.pure (.int .i64 0)), (.pure (.int .i64 0))])) := by kernel_rfl
@[simp] theorem ty_mk48 : tmk Try.prog 48 = some ((some 2), (some 16), (some [(.int .i64 0), (.int .i64 0)])) := by kernel_rfl
@[simp] theorem ty_spread48 : spreads Try.prog (some 48) = true := by kernel_rfl
@[simp] theorem ty_und48 : Try.prog.underlying 48 = some (.slice 27) := by kernel_rfl
@[simp] theorem ty_agg49 : tagg Try.prog 49 = some false := by kernel_rfl
@[simp] theorem ty_size49 : tsize Try.prog 49 = some 1 := by kernel_rfl
@[simp] theorem ty_zero49 : tzero Try.prog 49 = some (.pure (.int .i64 0)) := by kernel_rfl
@[simp] theorem ty_arr49 : tarrS Try.prog 49 = none := by kernel_rfl
@[simp] theorem ty_spread49 : spreads Try.prog (some 49) = false := by kernel_rfl
@[simp] theorem ty_und49 : Try.prog.underlying 49 = some (.int .i64) := by kernel_rfl
@[simp] theorem ty_key49 (n : Int) : keyFits Try.prog 49 (.int .i64 n) = true := by kernel_rfl
@[simp] theorem ty_agg62 : tagg Try.prog 62 = some true := by kernel_rfl
@[simp] theorem ty_size62 : tsize Try.prog 62 = some 2 := by kernel_rfl
@[simp] theorem ty_zero62 : tzero Try.prog 62 = some (.agg [.nils, .nils]) := by kernel_rfl
@[simp] theorem ty_arr62 : tarrS Try.prog 62 = none := by kernel_rfl
@[simp] theorem ty_places62 : tplaces Try.prog 62 = some [(0, 1), (1, 1)] := by kernel_rfl
@[simp] theorem ty_spread62 : spreads Try.prog (some 62) = false := by kernel_rfl
@[simp] theorem ty_agg72 : tagg Try.prog 72 = some true := by kernel_rfl
@[simp] theorem ty_size72 : tsize Try.prog 72 = some 3 := by kernel_rfl
@[simp] theorem ty_zero72 : tzero Try.prog 72 = some (.pure (.agg [(.int .i64 0), (.int .i64 0), (.int .i64 0)])) := by kernel_rfl
@[simp] theorem ty_arr72 : tarrS Try.prog 72 = none := by kernel_rfl
@[simp] theorem ty_places72 : tplaces Try.prog 72 = some [(0, 1), (1, 1), (2, 1)] := by kernel_rfl
@[simp] theorem ty_spread72 : spreads Try.prog (some 72) = false := by kernel_rfl
@[simp] theorem ty_agg93 : tagg Try.prog 93 = some false := by kernel_rfl
@[simp] theorem ty_size93 : tsize Try.prog 93 = some 1 := by kernel_rfl
@[simp] theorem ty_zero93 : tzero Try.prog 93 = some (.pure (.int .u64 0)) := by kernel_rfl
@[simp] theorem ty_arr93 : tarrS Try.prog 93 = none := by kernel_rfl
@[simp] theorem ty_spread93 : spreads Try.prog (some 93) = false := by kernel_rfl
@[simp] theorem ty_und93 : Try.prog.underlying 93 = some (.int .u64) := by kernel_rfl
@[simp] theorem ty_key93 (n : Int) : keyFits Try.prog 93 (.int .u64 n) = true := by kernel_rfl
@[simp] theorem ty_agg95 : tagg Try.prog 95 = some true := by kernel_rfl
@[simp] theorem ty_size95 : tsize Try.prog 95 = some 1 := by kernel_rfl
@[simp] theorem ty_zero95 : tzero Try.prog 95 = some (.pure (.agg [(.int .u64 0)])) := by kernel_rfl
@[simp] theorem ty_arr95 : tarrS Try.prog 95 = none := by kernel_rfl
@[simp] theorem ty_places95 : tplaces Try.prog 95 = some [(0, 1)] := by kernel_rfl
@[simp] theorem ty_spread95 : spreads Try.prog (some 95) = false := by kernel_rfl
@[simp] theorem ty_agg99 : tagg Try.prog 99 = some true := by kernel_rfl
@[simp] theorem ty_size99 : tsize Try.prog 99 = some 2 := by kernel_rfl
@[simp] theorem ty_zero99 : tzero Try.prog 99 = some (.pure (.agg [(.int .i64 0), (.int .i64 0)])) := by kernel_rfl
@[simp] theorem ty_arr99 : tarrS Try.prog 99 = none := by kernel_rfl
@[simp] theorem ty_places99 : tplaces Try.prog 99 = some [(0, 1), (1, 1)] := by kernel_rfl
@[simp] theorem ty_spread99 : spreads Try.prog (some 99) = false := by kernel_rfl
@[simp] theorem ty_agg101 : tagg Try.prog 101 = some false := by kernel_rfl
@[simp] theorem ty_size101 : tsize Try.prog 101 = some 1 := by kernel_rfl
@[simp] theorem ty_zero101 : tzero Try.prog 101 = some .nils := by kernel_rfl
@[simp] theorem ty_elem101 : telemS Try.prog 101 = some (some 2) := by kernel_rfl
@[simp] theorem ty_arr101 : tarrS Try.prog 101 = none := by kernel_rfl
@[simp] theorem ty_app101 : tapp Try.prog 101 = some ((some 2), (some 16), (some 2)) := by kernel_rfl
@[simp] theorem ty_lit101 : tlit Try.prog 101 = some ((some 2), (some [(.pure (.int .i64 0)), (.pure (.int .i64 0))])) := by kernel_rfl
@[simp] theorem ty_mk101 : tmk Try.prog 101 = some ((some 2), (some 16), (some [(.int .i64 0), (.int .i64 0)])) := by kernel_rfl
@[simp] theorem ty_spread101 : spreads Try.prog (some 101) = true := by kernel_rfl
@[simp] theorem ty_und101 : Try.prog.underlying 101 = some (.slice 104) := by kernel_rfl
@[simp] theorem ty_agg103 : tagg Try.prog 103 = some true := by kernel_rfl
@[simp] theorem ty_size103 : tsize Try.prog 103 = some 2 := by kernel_rfl
@[simp] theorem ty_zero103 : tzero Try.prog 103 = some (.pure (.agg [(.int .i64 0), (.int .i64 0)])) := by kernel_rfl
@[simp] theorem ty_arr103 : tarrS Try.prog 103 = some (2, (some 1), (some false)) := by kernel_rfl
@[simp] theorem ty_spread103 : spreads Try.prog (some 103) = false := by kernel_rfl
@[simp] theorem ty_und103 : Try.prog.underlying 103 = some (.array 2 3) := by kernel_rfl
@[simp] theorem ty_agg104 : tagg Try.prog 104 = some true := by kernel_rfl
@[simp] theorem ty_size104 : tsize Try.prog 104 = some 2 := by kernel_rfl
@[simp] theorem ty_zero104 : tzero Try.prog 104 = some (.pure (.agg [(.int .i64 0), (.int .i64 0)])) := by kernel_rfl
@[simp] theorem ty_arr104 : tarrS Try.prog 104 = some (2, (some 1), (some false)) := by kernel_rfl
@[simp] theorem ty_spread104 : spreads Try.prog (some 104) = false := by kernel_rfl
@[simp] theorem ty_und104 : Try.prog.underlying 104 = some (.array 2 3) := by kernel_rfl
@[simp] theorem ty_agg118 : tagg Try.prog 118 = some false := by kernel_rfl
@[simp] theorem ty_size118 : tsize Try.prog 118 = some 1 := by kernel_rfl
@[simp] theorem ty_zero118 : tzero Try.prog 118 = some (.pure .nilf) := by kernel_rfl
@[simp] theorem ty_arr118 : tarrS Try.prog 118 = none := by kernel_rfl
@[simp] theorem ty_spread118 : spreads Try.prog (some 118) = false := by kernel_rfl
@[simp] theorem ty_agg122 : tagg Try.prog 122 = some false := by kernel_rfl
@[simp] theorem ty_size122 : tsize Try.prog 122 = some 1 := by kernel_rfl
@[simp] theorem ty_zero122 : tzero Try.prog 122 = some (.pure .nilm) := by kernel_rfl
@[simp] theorem ty_arr122 : tarrS Try.prog 122 = none := by kernel_rfl
@[simp] theorem ty_mz122 : tmz Try.prog 122 = some (3, (some (.pure (.int .i64 0)))) := by kernel_rfl
@[simp] theorem ty_map122 : tmap Try.prog 122 = some (3, 3) := by kernel_rfl
@[simp] theorem ty_spread122 : spreads Try.prog (some 122) = false := by kernel_rfl
@[simp] theorem ty_und122 : Try.prog.underlying 122 = some (.map 3 3) := by kernel_rfl
@[simp] theorem ty_agg124 : tagg Try.prog 124 = some true := by kernel_rfl
@[simp] theorem ty_size124 : tsize Try.prog 124 = some 2 := by kernel_rfl
@[simp] theorem ty_zero124 : tzero Try.prog 124 = some (.pure (.agg [.nilm, .nilm])) := by kernel_rfl
@[simp] theorem ty_arr124 : tarrS Try.prog 124 = some (2, (some 1), (some false)) := by kernel_rfl
@[simp] theorem ty_spread124 : spreads Try.prog (some 124) = false := by kernel_rfl
@[simp] theorem ty_und124 : Try.prog.underlying 124 = some (.array 2 122) := by kernel_rfl
@[simp] theorem ty_agg130 : tagg Try.prog 130 = some true := by kernel_rfl
@[simp] theorem ty_size130 : tsize Try.prog 130 = some 3 := by kernel_rfl
@[simp] theorem ty_zero130 : tzero Try.prog 130 = some (.pure (.agg [(.int .i64 0), (.int .i64 0), (.int .i64 0)])) := by kernel_rfl
@[simp] theorem ty_arr130 : tarrS Try.prog 130 = none := by kernel_rfl
@[simp] theorem ty_places130 : tplaces Try.prog 130 = some [(0, 1), (1, 2)] := by kernel_rfl
@[simp] theorem ty_spread130 : spreads Try.prog (some 130) = false := by kernel_rfl
@[simp] theorem ty_fs25_0 : tfs Try.prog 25 0 = some (0, (some 1)) := by kernel_rfl
@[simp] theorem ty_fa25_0 : tfa Try.prog 25 0 = some (0, (some false), (some 1)) := by kernel_rfl
@[simp] theorem ty_fs25_1 : tfs Try.prog 25 1 = some (1, (some 1)) := by kernel_rfl
@[simp] theorem ty_fa25_1 : tfa Try.prog 25 1 = some (1, (some false), (some 1)) := by kernel_rfl
@[simp] theorem ty_fs27_0 : tfs Try.prog 27 0 = some (0, (some 1)) := by kernel_rfl
@[simp] theorem ty_fa27_0 : tfa Try.prog 27 0 = some (0, (some false), (some 1)) := by kernel_rfl
@[simp] theorem ty_fs27_1 : tfs Try.prog 27 1 = some (1, (some 1)) := by kernel_rfl
@[simp] theorem ty_fa27_1 : tfa Try.prog 27 1 = some (1, (some false), (some 1)) := by kernel_rfl
@[simp] theorem ty_fs29_0 : tfs Try.prog 29 0 = some (0, (some 1)) := by kernel_rfl
@[simp] theorem ty_fa29_0 : tfa Try.prog 29 0 = some (0, (some false), (some 1)) := by kernel_rfl
@[simp] theorem ty_fs29_1 : tfs Try.prog 29 1 = some (1, (some 2)) := by kernel_rfl
@[simp] theorem ty_fa29_1 : tfa Try.prog 29 1 = some (1, (some true), (some 2)) := by kernel_rfl
@[simp] theorem ty_fs29_2 : tfs Try.prog 29 2 = some (3, (some 1)) := by kernel_rfl
@[simp] theorem ty_fa29_2 : tfa Try.prog 29 2 = some (3, (some false), (some 1)) := by kernel_rfl
@[simp] theorem ty_fs29_3 : tfs Try.prog 29 3 = some (4, (some 1)) := by kernel_rfl
@[simp] theorem ty_fa29_3 : tfa Try.prog 29 3 = some (4, (some false), (some 1)) := by kernel_rfl
@[simp] theorem ty_fs29_4 : tfs Try.prog 29 4 = some (5, (some 1)) := by kernel_rfl
@[simp] theorem ty_fa29_4 : tfa Try.prog 29 4 = some (5, (some false), (some 1)) := by kernel_rfl
@[simp] theorem ty_fs29_5 : tfs Try.prog 29 5 = some (6, (some 1)) := by kernel_rfl
@[simp] theorem ty_fa29_5 : tfa Try.prog 29 5 = some (6, (some false), (some 1)) := by kernel_rfl
@[simp] theorem ty_fs29_6 : tfs Try.prog 29 6 = some (7, (some 1)) := by kernel_rfl
@[simp] theorem ty_fa29_6 : tfa Try.prog 29 6 = some (7, (some false), (some 1)) := by kernel_rfl
@[simp] theorem ty_fs32_0 : tfs Try.prog 32 0 = some (0, (some 2)) := by kernel_rfl
@[simp] theorem ty_fa32_0 : tfa Try.prog 32 0 = some (0, (some true), (some 2)) := by kernel_rfl
@[simp] theorem ty_fs32_1 : tfs Try.prog 32 1 = some (2, (some 2)) := by kernel_rfl
@[simp] theorem ty_fa32_1 : tfa Try.prog 32 1 = some (2, (some true), (some 2)) := by kernel_rfl
@[simp] theorem ty_fs32_2 : tfs Try.prog 32 2 = some (4, (some 2)) := by kernel_rfl
@[simp] theorem ty_fa32_2 : tfa Try.prog 32 2 = some (4, (some true), (some 2)) := by kernel_rfl
@[simp] theorem ty_fs32_3 : tfs Try.prog 32 3 = some (6, (some 1)) := by kernel_rfl
@[simp] theorem ty_fa32_3 : tfa Try.prog 32 3 = some (6, (some false), (some 1)) := by kernel_rfl
@[simp] theorem ty_fs62_0 : tfs Try.prog 62 0 = some (0, (some 1)) := by kernel_rfl
@[simp] theorem ty_fa62_0 : tfa Try.prog 62 0 = some (0, (some false), (some 1)) := by kernel_rfl
@[simp] theorem ty_fs62_1 : tfs Try.prog 62 1 = some (1, (some 1)) := by kernel_rfl
@[simp] theorem ty_fa62_1 : tfa Try.prog 62 1 = some (1, (some false), (some 1)) := by kernel_rfl
@[simp] theorem ty_fs72_0 : tfs Try.prog 72 0 = some (0, (some 1)) := by kernel_rfl
@[simp] theorem ty_fa72_0 : tfa Try.prog 72 0 = some (0, (some false), (some 1)) := by kernel_rfl
@[simp] theorem ty_fs72_1 : tfs Try.prog 72 1 = some (1, (some 1)) := by kernel_rfl
@[simp] theorem ty_fa72_1 : tfa Try.prog 72 1 = some (1, (some false), (some 1)) := by kernel_rfl
@[simp] theorem ty_fs72_2 : tfs Try.prog 72 2 = some (2, (some 1)) := by kernel_rfl
@[simp] theorem ty_fa72_2 : tfa Try.prog 72 2 = some (2, (some false), (some 1)) := by kernel_rfl
@[simp] theorem ty_fs95_0 : tfs Try.prog 95 0 = some (0, (some 1)) := by kernel_rfl
@[simp] theorem ty_fa95_0 : tfa Try.prog 95 0 = some (0, (some false), (some 1)) := by kernel_rfl
@[simp] theorem ty_fs99_0 : tfs Try.prog 99 0 = some (0, (some 1)) := by kernel_rfl
@[simp] theorem ty_fa99_0 : tfa Try.prog 99 0 = some (0, (some false), (some 1)) := by kernel_rfl
@[simp] theorem ty_fs99_1 : tfs Try.prog 99 1 = some (1, (some 1)) := by kernel_rfl
@[simp] theorem ty_fa99_1 : tfa Try.prog 99 1 = some (1, (some false), (some 1)) := by kernel_rfl
@[simp] theorem ty_fs130_0 : tfs Try.prog 130 0 = some (0, (some 1)) := by kernel_rfl
@[simp] theorem ty_fa130_0 : tfa Try.prog 130 0 = some (0, (some false), (some 1)) := by kernel_rfl
@[simp] theorem ty_fs130_1 : tfs Try.prog 130 1 = some (1, (some 2)) := by kernel_rfl
@[simp] theorem ty_fa130_1 : tfa Try.prog 130 1 = some (1, (some true), (some 2)) := by kernel_rfl
attribute [simp] Try.results2 Try.ntmps2
attribute [simp] Try.results3 Try.ntmps3
attribute [simp] Try.results4 Try.ntmps4
attribute [simp] Try.results5 Try.ntmps5
attribute [simp] Try.results6 Try.ntmps6
attribute [simp] Try.results7 Try.ntmps7
attribute [simp] Try.results8 Try.ntmps8
attribute [simp] Try.results9 Try.ntmps9
attribute [simp] Try.results10 Try.ntmps10
attribute [simp] Try.results11 Try.ntmps11
attribute [simp] Try.results12 Try.ntmps12
attribute [simp] Try.results13 Try.ntmps13
attribute [simp] Try.results14 Try.ntmps14
attribute [simp] Try.results15 Try.ntmps15
attribute [simp] Try.results16 Try.ntmps16
attribute [simp] Try.results17 Try.ntmps17
attribute [simp] Try.results18 Try.ntmps18
attribute [simp] Try.results19 Try.ntmps19
attribute [simp] Try.results20 Try.ntmps20
attribute [simp] Try.results21 Try.ntmps21
attribute [simp] Try.results22 Try.ntmps22
attribute [simp] Try.results23 Try.ntmps23
attribute [simp] Try.results24 Try.ntmps24
attribute [simp] Try.results25 Try.ntmps25
attribute [simp] Try.results26 Try.ntmps26
attribute [simp] Try.results27 Try.ntmps27
attribute [simp] Try.results28 Try.ntmps28
attribute [simp] Try.results29 Try.ntmps29
attribute [simp] Try.results30 Try.ntmps30
attribute [simp] Try.results31 Try.ntmps31
attribute [simp] Try.results32 Try.ntmps32
attribute [simp] Try.results33 Try.ntmps33
attribute [simp] Try.results34 Try.ntmps34
attribute [simp] Try.results35 Try.ntmps35
attribute [simp] Try.results36 Try.ntmps36
attribute [simp] Try.results37 Try.ntmps37
attribute [simp] Try.results38 Try.ntmps38
attribute [simp] Try.results39 Try.ntmps39
attribute [simp] Try.results40 Try.ntmps40
attribute [simp] Try.results41 Try.ntmps41
attribute [simp] Try.results42 Try.ntmps42
attribute [simp] Try.results43 Try.ntmps43
attribute [simp] Try.results44 Try.ntmps44
attribute [simp] Try.results45 Try.ntmps45
attribute [simp] Try.results46 Try.ntmps46
attribute [simp] Try.results47 Try.ntmps47
attribute [simp] Try.results48 Try.ntmps48
attribute [simp] Try.results49 Try.ntmps49
attribute [simp] Try.results50 Try.ntmps50
attribute [simp] Try.results51 Try.ntmps51
attribute [simp] Try.results52 Try.ntmps52
attribute [simp] Try.results53 Try.ntmps53
attribute [simp] Try.results54 Try.ntmps54
attribute [simp] Try.results55 Try.ntmps55
attribute [simp] Try.results56 Try.ntmps56
attribute [simp] Try.results57 Try.ntmps57
attribute [simp] Try.results58 Try.ntmps58
attribute [simp] Try.results59 Try.ntmps59
attribute [simp] Try.results60 Try.ntmps60
attribute [simp] Try.results61 Try.ntmps61
attribute [simp] Try.results62 Try.ntmps62
attribute [simp] Try.results63 Try.ntmps63
attribute [simp] Try.results64 Try.ntmps64
attribute [simp] Try.results65 Try.ntmps65
attribute [simp] Try.results66 Try.ntmps66
attribute [simp] Try.results67 Try.ntmps67
attribute [simp] Try.results68 Try.ntmps68
attribute [simp] Try.results69 Try.ntmps69
attribute [simp] Try.results70 Try.ntmps70
attribute [simp] Try.results71 Try.ntmps71
attribute [simp] Try.results72 Try.ntmps72
attribute [simp] Try.results73 Try.ntmps73
attribute [simp] Try.results74 Try.ntmps74
attribute [simp] Try.results75 Try.ntmps75
attribute [simp] Try.results76 Try.ntmps76
attribute [simp] Try.results77 Try.ntmps77
attribute [simp] Try.results78 Try.ntmps78
attribute [simp] Try.results79 Try.ntmps79
attribute [simp] Try.results80 Try.ntmps80
attribute [simp] Try.results81 Try.ntmps81
attribute [simp] Try.results82 Try.ntmps82
attribute [simp] Try.results83 Try.ntmps83
attribute [simp] Try.results84 Try.ntmps84
attribute [simp] Try.results85 Try.ntmps85
attribute [simp] Try.results86 Try.ntmps86
attribute [simp] Try.results87 Try.ntmps87
attribute [simp] Try.results88 Try.ntmps88
attribute [simp] Try.results89 Try.ntmps89
attribute [simp] Try.results90 Try.ntmps90
attribute [simp] Try.results91 Try.ntmps91
attribute [simp] Try.results92 Try.ntmps92
attribute [simp] Try.results93 Try.ntmps93
attribute [simp] Try.results94 Try.ntmps94
attribute [simp] Try.results95 Try.ntmps95
attribute [simp] Try.results96 Try.ntmps96
attribute [simp] Try.results97 Try.ntmps97
attribute [simp] Try.results98 Try.ntmps98
attribute [simp] Try.results99 Try.ntmps99
attribute [simp] Try.results100 Try.ntmps100
end Go.Gh


/- The drawn regions of all functions may be walked in the text's order (made by program). -/
namespace Go.Gh
open Go.Proofs
variable {keep : Nat → Bool}
theorem good3 : good (KC keep) needT 3 (Try.f3.body.getD .skip) = true := by kernel_rfl
theorem good4 : good (KC keep) needT 4 (Try.f4.body.getD .skip) = true := by kernel_rfl
theorem good5 : good (KC keep) needT 5 (Try.f5.body.getD .skip) = true := by kernel_rfl
theorem good6 : good (KC keep) needT 6 (Try.f6.body.getD .skip) = true := by kernel_rfl
theorem good7 : good (KC keep) needT 7 (Try.f7.body.getD .skip) = true := by kernel_rfl
theorem good8 : good (KC keep) needT 8 (Try.f8.body.getD .skip) = true := by kernel_rfl
theorem good9 : good (KC keep) needT 9 (Try.f9.body.getD .skip) = true := by kernel_rfl
theorem good10 : good (KC keep) needT 10 (Try.f10.body.getD .skip) = true := by kernel_rfl
theorem good11 : good (KC keep) needT 11 (Try.f11.body.getD .skip) = true := by kernel_rfl
theorem good12 : good (KC keep) needT 12 (Try.f12.body.getD .skip) = true := by kernel_rfl
theorem good13 : good (KC keep) needT 13 (Try.f13.body.getD .skip) = true := by kernel_rfl
theorem good14 : good (KC keep) needT 14 (Try.f14.body.getD .skip) = true := by kernel_rfl
theorem good15 : good (KC keep) needT 15 (Try.f15.body.getD .skip) = true := by kernel_rfl
theorem good16 : good (KC keep) needT 16 (Try.f16.body.getD .skip) = true := by kernel_rfl
theorem good17 : good (KC keep) needT 17 (Try.f17.body.getD .skip) = true := by kernel_rfl
theorem good18 : good (KC keep) needT 18 (Try.f18.body.getD .skip) = true := by kernel_rfl
theorem good19 : good (KC keep) needT 19 (Try.f19.body.getD .skip) = true := by kernel_rfl
theorem good20 : good (KC keep) needT 20 (Try.f20.body.getD .skip) = true := by kernel_rfl
theorem good21 : good (KC keep) needT 21 (Try.f21.body.getD .skip) = true := by kernel_rfl
theorem good22 : good (KC keep) needT 22 (Try.f22.body.getD .skip) = true := by kernel_rfl
theorem good23 : good (KC keep) needT 23 (Try.f23.body.getD .skip) = true := by kernel_rfl
theorem good24 : good (KC keep) needT 24 (Try.f24.body.getD .skip) = true := by kernel_rfl
theorem good25 : good (KC keep) needT 25 (Try.f25.body.getD .skip) = true := by kernel_rfl
theorem good26 : good (KC keep) needT 26 (Try.f26.body.getD .skip) = true := by kernel_rfl
theorem good27 : good (KC keep) needT 27 (Try.f27.body.getD .skip) = true := by kernel_rfl
theorem good28 : good (KC keep) needT 28 (Try.f28.body.getD .skip) = true := by kernel_rfl
theorem good29 : good (KC keep) needT 29 (Try.f29.body.getD .skip) = true := by kernel_rfl
theorem good30 : good (KC keep) needT 30 (Try.f30.body.getD .skip) = true := by kernel_rfl
theorem good31 : good (KC keep) needT 31 (Try.f31.body.getD .skip) = true := by kernel_rfl
theorem good32 : good (KC keep) needT 32 (Try.f32.body.getD .skip) = true := by kernel_rfl
theorem good33 : good (KC keep) needT 33 (Try.f33.body.getD .skip) = true := by kernel_rfl
theorem good34 : good (KC keep) needT 34 (Try.f34.body.getD .skip) = true := by kernel_rfl
theorem good35 : good (KC keep) needT 35 (Try.f35.body.getD .skip) = true := by kernel_rfl
theorem good36 : good (KC keep) needT 36 (Try.f36.body.getD .skip) = true := by kernel_rfl
theorem good37 : good (KC keep) needT 37 (Try.f37.body.getD .skip) = true := by kernel_rfl
theorem good38 : good (KC keep) needT 38 (Try.f38.body.getD .skip) = true := by kernel_rfl
theorem good39 : good (KC keep) needT 39 (Try.f39.body.getD .skip) = true := by kernel_rfl
theorem good40 : good (KC keep) needT 40 (Try.f40.body.getD .skip) = true := by kernel_rfl
theorem good41 : good (KC keep) needT 41 (Try.f41.body.getD .skip) = true := by kernel_rfl
theorem good42 : good (KC keep) needT 42 (Try.f42.body.getD .skip) = true := by kernel_rfl
theorem good43 : good (KC keep) needT 43 (Try.f43.body.getD .skip) = true := by kernel_rfl
theorem good44 : good (KC keep) needT 44 (Try.f44.body.getD .skip) = true := by kernel_rfl
theorem good45 : good (KC keep) needT 45 (Try.f45.body.getD .skip) = true := by kernel_rfl
theorem good46 : good (KC keep) needT 46 (Try.f46.body.getD .skip) = true := by kernel_rfl
theorem good47 : good (KC keep) needT 47 (Try.f47.body.getD .skip) = true := by kernel_rfl
theorem good48 : good (KC keep) needT 48 (Try.f48.body.getD .skip) = true := by kernel_rfl
theorem good49 : good (KC keep) needT 49 (Try.f49.body.getD .skip) = true := by kernel_rfl
theorem good50 : good (KC keep) needT 50 (Try.f50.body.getD .skip) = true := by kernel_rfl
theorem good51 : good (KC keep) needT 51 (Try.f51.body.getD .skip) = true := by kernel_rfl
theorem good52 : good (KC keep) needT 52 (Try.f52.body.getD .skip) = true := by kernel_rfl
theorem good53 : good (KC keep) needT 53 (Try.f53.body.getD .skip) = true := by kernel_rfl
theorem good54 : good (KC keep) needT 54 (Try.f54.body.getD .skip) = true := by kernel_rfl
theorem good55 : good (KC keep) needT 55 (Try.f55.body.getD .skip) = true := by kernel_rfl
theorem good56 : good (KC keep) needT 56 (Try.f56.body.getD .skip) = true := by kernel_rfl
theorem good57 : good (KC keep) needT 57 (Try.f57.body.getD .skip) = true := by kernel_rfl
theorem good58 : good (KC keep) needT 58 (Try.f58.body.getD .skip) = true := by kernel_rfl
theorem good59 : good (KC keep) needT 59 (Try.f59.body.getD .skip) = true := by kernel_rfl
theorem good60 : good (KC keep) needT 60 (Try.f60.body.getD .skip) = true := by kernel_rfl
theorem good61 : good (KC keep) needT 61 (Try.f61.body.getD .skip) = true := by kernel_rfl
theorem good62 : good (KC keep) needT 62 (Try.f62.body.getD .skip) = true := by kernel_rfl
theorem good63 : good (KC keep) needT 63 (Try.f63.body.getD .skip) = true := by kernel_rfl
theorem good64 : good (KC keep) needT 64 (Try.f64.body.getD .skip) = true := by kernel_rfl
theorem good65 : good (KC keep) needT 65 (Try.f65.body.getD .skip) = true := by kernel_rfl
theorem good66 : good (KC keep) needT 66 (Try.f66.body.getD .skip) = true := by kernel_rfl
theorem good67 : good (KC keep) needT 67 (Try.f67.body.getD .skip) = true := by kernel_rfl
theorem good68 : good (KC keep) needT 68 (Try.f68.body.getD .skip) = true := by kernel_rfl
theorem good69 : good (KC keep) needT 69 (Try.f69.body.getD .skip) = true := by kernel_rfl
theorem good70 : good (KC keep) needT 70 (Try.f70.body.getD .skip) = true := by kernel_rfl
theorem good71 : good (KC keep) needT 71 (Try.f71.body.getD .skip) = true := by kernel_rfl
theorem good72 : good (KC keep) needT 72 (Try.f72.body.getD .skip) = true := by kernel_rfl
theorem good73 : good (KC keep) needT 73 (Try.f73.body.getD .skip) = true := by kernel_rfl
theorem good74 : good (KC keep) needT 74 (Try.f74.body.getD .skip) = true := by kernel_rfl
theorem good75 : good (KC keep) needT 75 (Try.f75.body.getD .skip) = true := by kernel_rfl
theorem good76 : good (KC keep) needT 76 (Try.f76.body.getD .skip) = true := by kernel_rfl
theorem good77 : good (KC keep) needT 77 (Try.f77.body.getD .skip) = true := by kernel_rfl
theorem good78 : good (KC keep) needT 78 (Try.f78.body.getD .skip) = true := by kernel_rfl
theorem good79 : good (KC keep) needT 79 (Try.f79.body.getD .skip) = true := by kernel_rfl
theorem good80 : good (KC keep) needT 80 (Try.f80.body.getD .skip) = true := by kernel_rfl
theorem good81 : good (KC keep) needT 81 (Try.f81.body.getD .skip) = true := by kernel_rfl
theorem good82 : good (KC keep) needT 82 (Try.f82.body.getD .skip) = true := by kernel_rfl
theorem good83 : good (KC keep) needT 83 (Try.f83.body.getD .skip) = true := by kernel_rfl
theorem good84 : good (KC keep) needT 84 (Try.f84.body.getD .skip) = true := by kernel_rfl
theorem good85 : good (KC keep) needT 85 (Try.f85.body.getD .skip) = true := by kernel_rfl
theorem good86 : good (KC keep) needT 86 (Try.f86.body.getD .skip) = true := by kernel_rfl
theorem good87 : good (KC keep) needT 87 (Try.f87.body.getD .skip) = true := by kernel_rfl
theorem good88 : good (KC keep) needT 88 (Try.f88.body.getD .skip) = true := by kernel_rfl
theorem good89 : good (KC keep) needT 89 (Try.f89.body.getD .skip) = true := by kernel_rfl
theorem good90 : good (KC keep) needT 90 (Try.f90.body.getD .skip) = true := by kernel_rfl
theorem good91 : good (KC keep) needT 91 (Try.f91.body.getD .skip) = true := by kernel_rfl
theorem good92 : good (KC keep) needT 92 (Try.f92.body.getD .skip) = true := by kernel_rfl
theorem good93 : good (KC keep) needT 93 (Try.f93.body.getD .skip) = true := by kernel_rfl
theorem good94 : good (KC keep) needT 94 (Try.f94.body.getD .skip) = true := by kernel_rfl
theorem good95 : good (KC keep) needT 95 (Try.f95.body.getD .skip) = true := by kernel_rfl
theorem good96 : good (KC keep) needT 96 (Try.f96.body.getD .skip) = true := by kernel_rfl
theorem good97 : good (KC keep) needT 97 (Try.f97.body.getD .skip) = true := by kernel_rfl
theorem good98 : good (KC keep) needT 98 (Try.f98.body.getD .skip) = true := by kernel_rfl
theorem good99 : good (KC keep) needT 99 (Try.f99.body.getD .skip) = true := by kernel_rfl
theorem good100 : good (KC keep) needT 100 (Try.f100.body.getD .skip) = true := by kernel_rfl
end Go.Gh
