/- The context of a seat: annotations of its functions, facts on its types (made by program). -/
import Derived.Test.YtgmohiojddnfgaaGreatDoorWp4
import Derived.Test.YtgmohiojddnfgaaGreatDoorTold
import Derived.Test.YtgmohiojddnfgaaGreatDoorProg
import Derived.KernelRfl
namespace Go.Gh
open Go.Proofs
set_option linter.unusedSimpArgs false
set_option linter.unusedVariables false

def annT : List (Nat × Nat × List Nat × List Nat) := [(3, 6, [3, 4, 5, 13, 14, 15], [12, 14]), (3, 14, [14, 20], [12]), (9, 4, [0, 4, 5, 6], [0, 4, 5]), (9, 9, [0, 4, 5, 7, 8], [4, 5]), (10, 4, [0, 3, 4], [3]), (11, 8, [1, 5, 6, 18, 19, 20], [1, 5, 6]), (11, 16, [1, 5, 6, 53, 54, 55], [1, 5, 6]), (12, 7, [1, 5, 6], [1, 5]), (12, 15, [1, 5, 9], [1, 5]), (14, 8, [2, 5, 6, 7, 8, 26, 27, 28], [2, 3, 4, 5, 6, 7, 8]), (15, 8, [2, 5, 6, 7, 8, 9], [2, 3, 4, 5, 6, 7, 8]), (16, 5, [2, 3, 5], [2, 3, 4]), (16, 10, [2, 3, 6], [4]), (48, 5, [1, 14, 15, 16], [1, 2]), (48, 15, [6, 35, 36, 37], [2]), (49, 3, [2, 9, 10, 11], []), (53, 5, [1, 3], [1, 2]), (53, 20, [1, 8], [2]), (54, 3, [0, 1, 5], [0]), (56, 6, [6, 15, 16, 17], [4, 5, 6]), (58, 5, [0, 1, 5, 6, 7], [5]), (59, 6, [0, 6, 7], [4, 5, 6]), (96, 6, [0, 4, 5], [2, 3, 4])]
def upT : List (Nat × Nat × Up) := [(3, 85, .scopes 1), (9, 33, .box 5), (9, 67, .box 5), (15, 99, .box 6), (15, 123, .box 6), (50, 14, .box 0), (56, 46, .scopes 1), (57, 78, .box 0), (57, 107, .box 0), (58, 31, .scopes 1), (59, 33, .scopes 1)]
def annOf (f r : Nat) : Option (List Nat × List Nat) := (annT.find? fun x => x.1 == f && x.2.1 == r).map fun x => x.2.2
def upOf (f d : Nat) : Up := ((upT.find? fun x => x.1 == f && x.2.1 == d).map fun x => x.2.2).getD (.scopes 0)
def needL : List (Nat × Nat × List (Nat × Nat)) := [(3, 3, [(2, 0), (3, 0)]), (9, 5, [(3, 1), (5, 1), (9, 1), (10, 1), (12, 1)]), (9, 11, [(7, 1), (10, 1)]), (52, 1, [(8, 4), (9, 4)])]
def needT (f r : Nat) : List (Nat × Nat) := ((needL.find? fun x => x.1 == f && x.2.1 == r).map fun x => x.2.2).getD []
def eqsOf : Nat → Option (List SK)
  | 93 => some [.int .i64, .int .i64, .int .i64, .int .i64, .int .i64, .int .i64, .bool]
  | 96 => some [.int .i64, .int .i64]
  | _ => none
def litL : List (Nat × Nat) := [(3, 46)]
def typL : List Nat := [5, 105]
def extOf : Nat → Option (List GV → Heap → Option (GV × Heap))
  | 51 => some extItoa
  | 95 => some (extAtoi 222)
  | 55 => some extSplit
  | 90 => some (extCopy 105)
  | 8 => some (extTold [([], .bool true)])
  | _ => none
@[simp] theorem eqsOf_93 : eqsOf 93 = some [.int .i64, .int .i64, .int .i64, .int .i64, .int .i64, .int .i64, .bool] := .trans rfl rfl
@[simp] theorem eqsOf_96 : eqsOf 96 = some [.int .i64, .int .i64] := .trans rfl rfl
def keepL : List Nat := [10]
def frzL : List Nat := [48, 11, 16, 53, 12]
def borL : List Nat := []
def clnL : List Nat := [8, 51, 55, 90, 95]
def ownL : List (Nat × Nat) := []
def carL : List (Nat × Nat) := []
def liftOf (f d : Nat) : Option Nat :=  none
def rowOf (_ _ : Nat) : Option Nat := none
/-- The context; its second one has no function that is trusted with empty slices. -/
noncomputable def KC0 (cl : List Nat) : Ctx := { P := Tryz.prog, keep := fun f => keepL.contains f, ann := annOf, up := upOf, own := fun f d => ownL.contains (f, d), frz := fun f => frzL.contains f, bor := fun f => borL.contains f, car := fun f r => carL.contains (f, r), cln := fun f => cl.contains f, lift := liftOf, row := rowOf, eqs := eqsOf, typ := fun t => typL.contains t, ext := extOf, lit := fun f d => litL.contains (f, d) }
noncomputable def KC : Ctx := KC0 clnL
section
@[simp] theorem KC_P : KC.P = Tryz.prog := .trans rfl rfl
@[simp] theorem KC_own {f d : Nat} : KC.own f d = ownL.contains (f, d) := .trans rfl rfl
@[simp] theorem KC_lift {f d : Nat} : KC.lift f d = liftOf f d := .trans rfl rfl
@[simp] theorem KC_row {f d : Nat} : KC.row f d = rowOf f d := .trans rfl rfl
attribute [simp] liftOf ownL rowOf
@[simp] theorem KC_lit {f d : Nat} : KC.lit f d = litL.contains (f, d) := .trans rfl rfl
attribute [simp] litL
@[simp] theorem KC_typ {t : Nat} : KC.typ t = typL.contains t := .trans rfl rfl
attribute [simp] typL
@[simp] theorem ty_typ3 : typE KC 3 = false := by kernel_rfl
@[simp] theorem ty_typ4 : typE KC 4 = false := by kernel_rfl
@[simp] theorem ty_typ5 : typE KC 5 = false := by kernel_rfl
@[simp] theorem ty_typ9 : typE KC 9 = false := by kernel_rfl
@[simp] theorem ty_typ22 : typE KC 22 = false := by kernel_rfl
@[simp] theorem ty_typ23 : typE KC 23 = false := by kernel_rfl
@[simp] theorem ty_typ25 : typE KC 25 = false := by kernel_rfl
@[simp] theorem ty_typ26 : typE KC 26 = false := by kernel_rfl
@[simp] theorem ty_typ30 : typE KC 30 = false := by kernel_rfl
@[simp] theorem ty_typ32 : typE KC 32 = false := by kernel_rfl
@[simp] theorem ty_typ33 : typE KC 33 = false := by kernel_rfl
@[simp] theorem ty_typ34 : typE KC 34 = false := by kernel_rfl
@[simp] theorem ty_typ74 : typE KC 74 = false := by kernel_rfl
@[simp] theorem ty_typ80 : typE KC 80 = false := by kernel_rfl
@[simp] theorem ty_typ93 : typE KC 93 = false := by kernel_rfl
@[simp] theorem ty_typ96 : typE KC 96 = false := by kernel_rfl
@[simp] theorem ty_typ97 : typE KC 97 = false := by kernel_rfl
@[simp] theorem ty_typ99 : typE KC 99 = false := by kernel_rfl
@[simp] theorem ty_typ102 : typE KC 102 = false := by kernel_rfl
@[simp] theorem ty_typ103 : typE KC 103 = true := by kernel_rfl
@[simp] theorem ty_typ105 : typE KC 105 = false := by kernel_rfl
@[simp] theorem ty_typ107 : typE KC 107 = false := by kernel_rfl
@[simp] theorem ty_typ118 : typE KC 118 = false := by kernel_rfl
@[simp] theorem ty_typ162 : typE KC 162 = false := by kernel_rfl
@[simp] theorem KC_ann_3_6 : KC.ann 3 6 = some ([3, 4, 5, 13, 14, 15], [12, 14]) := by kernel_rfl
@[simp] theorem KC_car_3_6 : KC.car 3 6 = false := by kernel_rfl
@[simp] theorem KC_ann_3_14 : KC.ann 3 14 = some ([14, 20], [12]) := by kernel_rfl
@[simp] theorem KC_car_3_14 : KC.car 3 14 = false := by kernel_rfl
@[simp] theorem KC_ann_9_4 : KC.ann 9 4 = some ([0, 4, 5, 6], [0, 4, 5]) := by kernel_rfl
@[simp] theorem KC_car_9_4 : KC.car 9 4 = false := by kernel_rfl
@[simp] theorem KC_ann_9_9 : KC.ann 9 9 = some ([0, 4, 5, 7, 8], [4, 5]) := by kernel_rfl
@[simp] theorem KC_car_9_9 : KC.car 9 9 = false := by kernel_rfl
@[simp] theorem KC_ann_10_4 : KC.ann 10 4 = some ([0, 3, 4], [3]) := by kernel_rfl
@[simp] theorem KC_car_10_4 : KC.car 10 4 = false := by kernel_rfl
@[simp] theorem KC_ann_11_8 : KC.ann 11 8 = some ([1, 5, 6, 18, 19, 20], [1, 5, 6]) := by kernel_rfl
@[simp] theorem KC_car_11_8 : KC.car 11 8 = false := by kernel_rfl
@[simp] theorem KC_ann_11_16 : KC.ann 11 16 = some ([1, 5, 6, 53, 54, 55], [1, 5, 6]) := by kernel_rfl
@[simp] theorem KC_car_11_16 : KC.car 11 16 = false := by kernel_rfl
@[simp] theorem KC_ann_12_7 : KC.ann 12 7 = some ([1, 5, 6], [1, 5]) := by kernel_rfl
@[simp] theorem KC_car_12_7 : KC.car 12 7 = false := by kernel_rfl
@[simp] theorem KC_ann_12_15 : KC.ann 12 15 = some ([1, 5, 9], [1, 5]) := by kernel_rfl
@[simp] theorem KC_car_12_15 : KC.car 12 15 = false := by kernel_rfl
@[simp] theorem KC_ann_14_8 : KC.ann 14 8 = some ([2, 5, 6, 7, 8, 26, 27, 28], [2, 3, 4, 5, 6, 7, 8]) := by kernel_rfl
@[simp] theorem KC_car_14_8 : KC.car 14 8 = false := by kernel_rfl
@[simp] theorem KC_ann_15_8 : KC.ann 15 8 = some ([2, 5, 6, 7, 8, 9], [2, 3, 4, 5, 6, 7, 8]) := by kernel_rfl
@[simp] theorem KC_car_15_8 : KC.car 15 8 = false := by kernel_rfl
@[simp] theorem KC_ann_16_5 : KC.ann 16 5 = some ([2, 3, 5], [2, 3, 4]) := by kernel_rfl
@[simp] theorem KC_car_16_5 : KC.car 16 5 = false := by kernel_rfl
@[simp] theorem KC_ann_16_10 : KC.ann 16 10 = some ([2, 3, 6], [4]) := by kernel_rfl
@[simp] theorem KC_car_16_10 : KC.car 16 10 = false := by kernel_rfl
@[simp] theorem KC_ann_48_5 : KC.ann 48 5 = some ([1, 14, 15, 16], [1, 2]) := by kernel_rfl
@[simp] theorem KC_car_48_5 : KC.car 48 5 = false := by kernel_rfl
@[simp] theorem KC_ann_48_15 : KC.ann 48 15 = some ([6, 35, 36, 37], [2]) := by kernel_rfl
@[simp] theorem KC_car_48_15 : KC.car 48 15 = false := by kernel_rfl
@[simp] theorem KC_ann_49_3 : KC.ann 49 3 = some ([2, 9, 10, 11], []) := by kernel_rfl
@[simp] theorem KC_car_49_3 : KC.car 49 3 = false := by kernel_rfl
@[simp] theorem KC_ann_53_5 : KC.ann 53 5 = some ([1, 3], [1, 2]) := by kernel_rfl
@[simp] theorem KC_car_53_5 : KC.car 53 5 = false := by kernel_rfl
@[simp] theorem KC_ann_53_20 : KC.ann 53 20 = some ([1, 8], [2]) := by kernel_rfl
@[simp] theorem KC_car_53_20 : KC.car 53 20 = false := by kernel_rfl
@[simp] theorem KC_ann_54_3 : KC.ann 54 3 = some ([0, 1, 5], [0]) := by kernel_rfl
@[simp] theorem KC_car_54_3 : KC.car 54 3 = false := by kernel_rfl
@[simp] theorem KC_ann_56_6 : KC.ann 56 6 = some ([6, 15, 16, 17], [4, 5, 6]) := by kernel_rfl
@[simp] theorem KC_car_56_6 : KC.car 56 6 = false := by kernel_rfl
@[simp] theorem KC_ann_58_5 : KC.ann 58 5 = some ([0, 1, 5, 6, 7], [5]) := by kernel_rfl
@[simp] theorem KC_car_58_5 : KC.car 58 5 = false := by kernel_rfl
@[simp] theorem KC_ann_59_6 : KC.ann 59 6 = some ([0, 6, 7], [4, 5, 6]) := by kernel_rfl
@[simp] theorem KC_car_59_6 : KC.car 59 6 = false := by kernel_rfl
@[simp] theorem KC_ann_96_6 : KC.ann 96 6 = some ([0, 4, 5], [2, 3, 4]) := by kernel_rfl
@[simp] theorem KC_car_96_6 : KC.car 96 6 = false := by kernel_rfl
@[simp] theorem KC_up_3_85 : KC.up 3 85 = .scopes 1 := by kernel_rfl
@[simp] theorem KC_up_9_33 : KC.up 9 33 = .box 5 := by kernel_rfl
@[simp] theorem KC_up_9_67 : KC.up 9 67 = .box 5 := by kernel_rfl
@[simp] theorem KC_up_15_99 : KC.up 15 99 = .box 6 := by kernel_rfl
@[simp] theorem KC_up_15_123 : KC.up 15 123 = .box 6 := by kernel_rfl
@[simp] theorem KC_up_50_14 : KC.up 50 14 = .box 0 := by kernel_rfl
@[simp] theorem KC_up_56_46 : KC.up 56 46 = .scopes 1 := by kernel_rfl
@[simp] theorem KC_up_57_78 : KC.up 57 78 = .box 0 := by kernel_rfl
@[simp] theorem KC_up_57_107 : KC.up 57 107 = .box 0 := by kernel_rfl
@[simp] theorem KC_up_58_31 : KC.up 58 31 = .scopes 1 := by kernel_rfl
@[simp] theorem KC_up_59_33 : KC.up 59 33 = .scopes 1 := by kernel_rfl
@[simp] theorem need_3_3 : needT 3 3 = [(2, 0), (3, 0)] := by kernel_rfl
@[simp] theorem need_9_5 : needT 9 5 = [(3, 1), (5, 1), (9, 1), (10, 1), (12, 1)] := by kernel_rfl
@[simp] theorem need_9_11 : needT 9 11 = [(7, 1), (10, 1)] := by kernel_rfl
@[simp] theorem need_10_5 : needT 10 5 = [] := by kernel_rfl
@[simp] theorem need_12_16 : needT 12 16 = [] := by kernel_rfl
@[simp] theorem need_13_7 : needT 13 7 = [] := by kernel_rfl
@[simp] theorem need_13_9 : needT 13 9 = [] := by kernel_rfl
@[simp] theorem need_13_10 : needT 13 10 = [] := by kernel_rfl
@[simp] theorem need_14_17 : needT 14 17 = [] := by kernel_rfl
@[simp] theorem need_15_16 : needT 15 16 = [] := by kernel_rfl
@[simp] theorem need_15_20 : needT 15 20 = [] := by kernel_rfl
@[simp] theorem need_15_24 : needT 15 24 = [] := by kernel_rfl
@[simp] theorem need_16_6 : needT 16 6 = [] := by kernel_rfl
@[simp] theorem need_16_11 : needT 16 11 = [] := by kernel_rfl
@[simp] theorem need_52_1 : needT 52 1 = [(8, 4), (9, 4)] := by kernel_rfl
@[simp] theorem need_57_4 : needT 57 4 = [] := by kernel_rfl
@[simp] theorem need_57_9 : needT 57 9 = [] := by kernel_rfl
@[simp] theorem KC_eqs {t : Nat} : KC.eqs t = eqsOf t := .trans rfl rfl
end

@[simp] theorem ty_agg3 : tagg Tryz.prog 3 = some false := by kernel_rfl
@[simp] theorem ty_size3 : tsize Tryz.prog 3 = some 1 := by kernel_rfl
@[simp] theorem ty_zero3 : tzero Tryz.prog 3 = some (.pure (.int .i64 0)) := by kernel_rfl
@[simp] theorem ty_arr3 : tarrS Tryz.prog 3 = none := by kernel_rfl
@[simp] theorem ty_spread3 : spreads Tryz.prog (some 3) = false := by kernel_rfl
@[simp] theorem ty_und3 : Tryz.prog.underlying 3 = some (.int .i64) := by kernel_rfl
@[simp] theorem ty_key3 (n : Int) : keyFits Tryz.prog 3 (.int .i64 n) = true := by kernel_rfl
@[simp] theorem ty_agg4 : tagg Tryz.prog 4 = some false := by kernel_rfl
@[simp] theorem ty_size4 : tsize Tryz.prog 4 = some 1 := by kernel_rfl
@[simp] theorem ty_zero4 : tzero Tryz.prog 4 = some (.pure (.bool false)) := by kernel_rfl
@[simp] theorem ty_arr4 : tarrS Tryz.prog 4 = none := by kernel_rfl
@[simp] theorem ty_spread4 : spreads Tryz.prog (some 4) = false := by kernel_rfl
@[simp] theorem ty_und4 : Tryz.prog.underlying 4 = some .bool := by kernel_rfl
@[simp] theorem ty_agg5 : tagg Tryz.prog 5 = some false := by kernel_rfl
@[simp] theorem ty_size5 : tsize Tryz.prog 5 = some 1 := by kernel_rfl
@[simp] theorem ty_zero5 : tzero Tryz.prog 5 = some (.pure (.int .u8 0)) := by kernel_rfl
@[simp] theorem ty_arr5 : tarrS Tryz.prog 5 = none := by kernel_rfl
@[simp] theorem ty_spread5 : spreads Tryz.prog (some 5) = false := by kernel_rfl
@[simp] theorem ty_und5 : Tryz.prog.underlying 5 = some (.int .u8) := by kernel_rfl
@[simp] theorem ty_key5 (n : Int) : keyFits Tryz.prog 5 (.int .u8 n) = true := by kernel_rfl
@[simp] theorem ty_agg9 : tagg Tryz.prog 9 = some false := by kernel_rfl
@[simp] theorem ty_size9 : tsize Tryz.prog 9 = some 1 := by kernel_rfl
@[simp] theorem ty_zero9 : tzero Tryz.prog 9 = some (.pure (.str [])) := by kernel_rfl
@[simp] theorem ty_arr9 : tarrS Tryz.prog 9 = none := by kernel_rfl
@[simp] theorem ty_spread9 : spreads Tryz.prog (some 9) = true := by kernel_rfl
@[simp] theorem ty_und9 : Tryz.prog.underlying 9 = some .string := by kernel_rfl
@[simp] theorem ty_key9 (s : List UInt8) : keyFits Tryz.prog 9 (.str s) = true := by kernel_rfl
@[simp] theorem ty_agg22 : tagg Tryz.prog 22 = some false := by kernel_rfl
@[simp] theorem ty_size22 : tsize Tryz.prog 22 = some 1 := by kernel_rfl
@[simp] theorem ty_zero22 : tzero Tryz.prog 22 = some .nils := by kernel_rfl
@[simp] theorem ty_elem22 : telemS Tryz.prog 22 = some (some 7) := by kernel_rfl
@[simp] theorem ty_arr22 : tarrS Tryz.prog 22 = none := by kernel_rfl
@[simp] theorem ty_app22 : tapp Tryz.prog 22 = some ((some 7), (some 56), (some 7)) := by kernel_rfl
@[simp] theorem ty_lit22 : tlit Tryz.prog 22 = some ((some 7), (some [(.pure (.int .i64 0)), (.pure (.int .i64 0)), (.pure (.int .i64 0)), (.pure (.int .i64 0)), (.pure (.int .i64 0)), (.pure (.int .i64 0)), (.pure (.bool false))])) := by kernel_rfl
@[simp] theorem ty_mk22 : tmk Tryz.prog 22 = some ((some 7), (some 56), (some [(.int .i64 0), (.int .i64 0), (.int .i64 0), (.int .i64 0), (.int .i64 0), (.int .i64 0), (.bool false)])) := by kernel_rfl
@[simp] theorem ty_spread22 : spreads Tryz.prog (some 22) = true := by kernel_rfl
@[simp] theorem ty_und22 : Tryz.prog.underlying 22 = some (.slice 93) := by kernel_rfl
@[simp] theorem ty_agg23 : tagg Tryz.prog 23 = some false := by kernel_rfl
@[simp] theorem ty_size23 : tsize Tryz.prog 23 = some 1 := by kernel_rfl
@[simp] theorem ty_zero23 : tzero Tryz.prog 23 = some .nils := by kernel_rfl
@[simp] theorem ty_elem23 : telemS Tryz.prog 23 = some (some 2) := by kernel_rfl
@[simp] theorem ty_arr23 : tarrS Tryz.prog 23 = none := by kernel_rfl
@[simp] theorem ty_app23 : tapp Tryz.prog 23 = some ((some 2), (some 16), (some 2)) := by kernel_rfl
@[simp] theorem ty_lit23 : tlit Tryz.prog 23 = some ((some 2), (some [(.pure (.int .i64 0)), (.pure (.int .i64 0))])) := by kernel_rfl
@[simp] theorem ty_mk23 : tmk Tryz.prog 23 = some ((some 2), (some 16), (some [(.int .i64 0), (.int .i64 0)])) := by kernel_rfl
@[simp] theorem ty_spread23 : spreads Tryz.prog (some 23) = true := by kernel_rfl
@[simp] theorem ty_und23 : Tryz.prog.underlying 23 = some (.slice 96) := by kernel_rfl
@[simp] theorem ty_agg25 : tagg Tryz.prog 25 = some true := by kernel_rfl
@[simp] theorem ty_size25 : tsize Tryz.prog 25 = some 2 := by kernel_rfl
@[simp] theorem ty_zero25 : tzero Tryz.prog 25 = some (.agg [.nils, .nils]) := by kernel_rfl
@[simp] theorem ty_arr25 : tarrS Tryz.prog 25 = none := by kernel_rfl
@[simp] theorem ty_places25 : tplaces Tryz.prog 25 = some [(0, 1), (1, 1)] := by kernel_rfl
@[simp] theorem ty_spread25 : spreads Tryz.prog (some 25) = false := by kernel_rfl
@[simp] theorem ty_agg26 : tagg Tryz.prog 26 = some false := by kernel_rfl
@[simp] theorem ty_size26 : tsize Tryz.prog 26 = some 1 := by kernel_rfl
@[simp] theorem ty_zero26 : tzero Tryz.prog 26 = some .nils := by kernel_rfl
@[simp] theorem ty_elem26 : telemS Tryz.prog 26 = some (some 1) := by kernel_rfl
@[simp] theorem ty_arr26 : tarrS Tryz.prog 26 = none := by kernel_rfl
@[simp] theorem ty_app26 : tapp Tryz.prog 26 = some ((some 1), (some 8), (some 1)) := by kernel_rfl
@[simp] theorem ty_lit26 : tlit Tryz.prog 26 = some ((some 1), (some [(.pure (.int .i64 0))])) := by kernel_rfl
@[simp] theorem ty_mk26 : tmk Tryz.prog 26 = some ((some 1), (some 8), (some [(.int .i64 0)])) := by kernel_rfl
@[simp] theorem ty_spread26 : spreads Tryz.prog (some 26) = true := by kernel_rfl
@[simp] theorem ty_und26 : Tryz.prog.underlying 26 = some (.slice 3) := by kernel_rfl
@[simp] theorem ty_agg30 : tagg Tryz.prog 30 = some false := by kernel_rfl
@[simp] theorem ty_size30 : tsize Tryz.prog 30 = some 1 := by kernel_rfl
@[simp] theorem ty_zero30 : tzero Tryz.prog 30 = some (.pure .nilp) := by kernel_rfl
@[simp] theorem ty_arr30 : tarrS Tryz.prog 30 = none := by kernel_rfl
@[simp] theorem ty_spread30 : spreads Tryz.prog (some 30) = false := by kernel_rfl
@[simp] theorem ty_und30 : Tryz.prog.underlying 30 = some (.pointer 99) := by kernel_rfl
@[simp] theorem ty_agg32 : tagg Tryz.prog 32 = some false := by kernel_rfl
@[simp] theorem ty_size32 : tsize Tryz.prog 32 = some 1 := by kernel_rfl
@[simp] theorem ty_zero32 : tzero Tryz.prog 32 = some .nils := by kernel_rfl
@[simp] theorem ty_elem32 : telemS Tryz.prog 32 = some (some 2) := by kernel_rfl
@[simp] theorem ty_arr32 : tarrS Tryz.prog 32 = none := by kernel_rfl
@[simp] theorem ty_app32 : tapp Tryz.prog 32 = some ((some 2), (some 48), (some 2)) := by kernel_rfl
@[simp] theorem ty_lit32 : tlit Tryz.prog 32 = some ((some 2), (some [.nils, .nils])) := by kernel_rfl
@[simp] theorem ty_mk32 : tmk Tryz.prog 32 = some ((some 2), (some 48), (some [(.slice []), (.slice [])])) := by kernel_rfl
@[simp] theorem ty_spread32 : spreads Tryz.prog (some 32) = true := by kernel_rfl
@[simp] theorem ty_und32 : Tryz.prog.underlying 32 = some (.slice 25) := by kernel_rfl
@[simp] theorem ty_agg33 : tagg Tryz.prog 33 = some false := by kernel_rfl
@[simp] theorem ty_size33 : tsize Tryz.prog 33 = some 1 := by kernel_rfl
@[simp] theorem ty_zero33 : tzero Tryz.prog 33 = some .nils := by kernel_rfl
@[simp] theorem ty_elem33 : telemS Tryz.prog 33 = some (some 1) := by kernel_rfl
@[simp] theorem ty_arr33 : tarrS Tryz.prog 33 = none := by kernel_rfl
@[simp] theorem ty_app33 : tapp Tryz.prog 33 = some ((some 1), (some 16), (some 1)) := by kernel_rfl
@[simp] theorem ty_lit33 : tlit Tryz.prog 33 = some ((some 1), (some [(.pure (.str []))])) := by kernel_rfl
@[simp] theorem ty_mk33 : tmk Tryz.prog 33 = some ((some 1), (some 16), (some [(.str [])])) := by kernel_rfl
@[simp] theorem ty_spread33 : spreads Tryz.prog (some 33) = true := by kernel_rfl
@[simp] theorem ty_und33 : Tryz.prog.underlying 33 = some (.slice 9) := by kernel_rfl
@[simp] theorem ty_agg34 : tagg Tryz.prog 34 = some false := by kernel_rfl
@[simp] theorem ty_size34 : tsize Tryz.prog 34 = some 1 := by kernel_rfl
@[simp] theorem ty_zero34 : tzero Tryz.prog 34 = some (.pure (.int .i64 0)) := by kernel_rfl
@[simp] theorem ty_arr34 : tarrS Tryz.prog 34 = none := by kernel_rfl
@[simp] theorem ty_spread34 : spreads Tryz.prog (some 34) = false := by kernel_rfl
@[simp] theorem ty_und34 : Tryz.prog.underlying 34 = some (.int .i64) := by kernel_rfl
@[simp] theorem ty_key34 (n : Int) : keyFits Tryz.prog 34 (.int .i64 n) = true := by kernel_rfl
@[simp] theorem ty_agg74 : tagg Tryz.prog 74 = some false := by kernel_rfl
@[simp] theorem ty_size74 : tsize Tryz.prog 74 = some 1 := by kernel_rfl
@[simp] theorem ty_zero74 : tzero Tryz.prog 74 = some .nils := by kernel_rfl
@[simp] theorem ty_elem74 : telemS Tryz.prog 74 = some (some 3) := by kernel_rfl
@[simp] theorem ty_arr74 : tarrS Tryz.prog 74 = none := by kernel_rfl
@[simp] theorem ty_app74 : tapp Tryz.prog 74 = some ((some 3), (some 24), (some 3)) := by kernel_rfl
@[simp] theorem ty_lit74 : tlit Tryz.prog 74 = some ((some 3), (some [(.pure (.int .i64 0)), (.pure (.int .i64 0)), (.pure (.int .i64 0))])) := by kernel_rfl
@[simp] theorem ty_mk74 : tmk Tryz.prog 74 = some ((some 3), (some 24), (some [(.int .i64 0), (.int .i64 0), (.int .i64 0)])) := by kernel_rfl
@[simp] theorem ty_spread74 : spreads Tryz.prog (some 74) = true := by kernel_rfl
@[simp] theorem ty_und74 : Tryz.prog.underlying 74 = some (.slice 190) := by kernel_rfl
@[simp] theorem ty_agg80 : tagg Tryz.prog 80 = some true := by kernel_rfl
@[simp] theorem ty_size80 : tsize Tryz.prog 80 = some 2 := by kernel_rfl
@[simp] theorem ty_zero80 : tzero Tryz.prog 80 = some (.pure (.agg [(.int .i64 0), (.int .i64 0)])) := by kernel_rfl
@[simp] theorem ty_arr80 : tarrS Tryz.prog 80 = none := by kernel_rfl
@[simp] theorem ty_places80 : tplaces Tryz.prog 80 = some [(0, 1), (1, 1)] := by kernel_rfl
@[simp] theorem ty_spread80 : spreads Tryz.prog (some 80) = false := by kernel_rfl
@[simp] theorem ty_agg93 : tagg Tryz.prog 93 = some true := by kernel_rfl
@[simp] theorem ty_size93 : tsize Tryz.prog 93 = some 7 := by kernel_rfl
@[simp] theorem ty_zero93 : tzero Tryz.prog 93 = some (.pure (.agg [(.int .i64 0), (.int .i64 0), (.int .i64 0), (.int .i64 0), (.int .i64 0), (.int .i64 0), (.bool false)])) := by kernel_rfl
@[simp] theorem ty_arr93 : tarrS Tryz.prog 93 = none := by kernel_rfl
@[simp] theorem ty_places93 : tplaces Tryz.prog 93 = some [(0, 2), (2, 2), (4, 2), (6, 1)] := by kernel_rfl
@[simp] theorem ty_spread93 : spreads Tryz.prog (some 93) = false := by kernel_rfl
@[simp] theorem ty_agg96 : tagg Tryz.prog 96 = some true := by kernel_rfl
@[simp] theorem ty_size96 : tsize Tryz.prog 96 = some 2 := by kernel_rfl
@[simp] theorem ty_zero96 : tzero Tryz.prog 96 = some (.pure (.agg [(.int .i64 0), (.int .i64 0)])) := by kernel_rfl
@[simp] theorem ty_arr96 : tarrS Tryz.prog 96 = none := by kernel_rfl
@[simp] theorem ty_places96 : tplaces Tryz.prog 96 = some [(0, 1), (1, 1)] := by kernel_rfl
@[simp] theorem ty_spread96 : spreads Tryz.prog (some 96) = false := by kernel_rfl
@[simp] theorem ty_agg97 : tagg Tryz.prog 97 = some false := by kernel_rfl
@[simp] theorem ty_size97 : tsize Tryz.prog 97 = some 1 := by kernel_rfl
@[simp] theorem ty_zero97 : tzero Tryz.prog 97 = some (.pure (.int .u64 0)) := by kernel_rfl
@[simp] theorem ty_arr97 : tarrS Tryz.prog 97 = none := by kernel_rfl
@[simp] theorem ty_spread97 : spreads Tryz.prog (some 97) = false := by kernel_rfl
@[simp] theorem ty_und97 : Tryz.prog.underlying 97 = some (.int .u64) := by kernel_rfl
@[simp] theorem ty_key97 (n : Int) : keyFits Tryz.prog 97 (.int .u64 n) = true := by kernel_rfl
@[simp] theorem ty_agg99 : tagg Tryz.prog 99 = some true := by kernel_rfl
@[simp] theorem ty_size99 : tsize Tryz.prog 99 = some 1 := by kernel_rfl
@[simp] theorem ty_zero99 : tzero Tryz.prog 99 = some (.pure (.agg [(.int .u64 0)])) := by kernel_rfl
@[simp] theorem ty_arr99 : tarrS Tryz.prog 99 = none := by kernel_rfl
@[simp] theorem ty_places99 : tplaces Tryz.prog 99 = some [(0, 1)] := by kernel_rfl
@[simp] theorem ty_spread99 : spreads Tryz.prog (some 99) = false := by kernel_rfl
@[simp] theorem ty_agg102 : tagg Tryz.prog 102 = some false := by kernel_rfl
@[simp] theorem ty_size102 : tsize Tryz.prog 102 = some 1 := by kernel_rfl
@[simp] theorem ty_zero102 : tzero Tryz.prog 102 = some (.pure .nilp) := by kernel_rfl
@[simp] theorem ty_arr102 : tarrS Tryz.prog 102 = none := by kernel_rfl
@[simp] theorem ty_spread102 : spreads Tryz.prog (some 102) = false := by kernel_rfl
@[simp] theorem ty_und102 : Tryz.prog.underlying 102 = some (.pointer 105) := by kernel_rfl
@[simp] theorem ty_agg103 : tagg Tryz.prog 103 = some false := by kernel_rfl
@[simp] theorem ty_size103 : tsize Tryz.prog 103 = some 1 := by kernel_rfl
@[simp] theorem ty_zero103 : tzero Tryz.prog 103 = some .nils := by kernel_rfl
@[simp] theorem ty_elem103 : telemS Tryz.prog 103 = some (some 1) := by kernel_rfl
@[simp] theorem ty_arr103 : tarrS Tryz.prog 103 = none := by kernel_rfl
@[simp] theorem ty_app103 : tapp Tryz.prog 103 = some ((some 1), (some 1), (some 1)) := by kernel_rfl
@[simp] theorem ty_lit103 : tlit Tryz.prog 103 = some ((some 1), (some [(.pure (.int .u8 0))])) := by kernel_rfl
@[simp] theorem ty_mk103 : tmk Tryz.prog 103 = some ((some 1), (some 1), (some [(.int .u8 0)])) := by kernel_rfl
@[simp] theorem ty_spread103 : spreads Tryz.prog (some 103) = true := by kernel_rfl
@[simp] theorem ty_und103 : Tryz.prog.underlying 103 = some (.slice 5) := by kernel_rfl
@[simp] theorem ty_agg105 : tagg Tryz.prog 105 = some true := by kernel_rfl
@[simp] theorem ty_size105 : tsize Tryz.prog 105 = some 2 := by kernel_rfl
@[simp] theorem ty_zero105 : tzero Tryz.prog 105 = some (.agg [(.pure .nilp), .nils]) := by kernel_rfl
@[simp] theorem ty_arr105 : tarrS Tryz.prog 105 = none := by kernel_rfl
@[simp] theorem ty_places105 : tplaces Tryz.prog 105 = some [(0, 1), (1, 1)] := by kernel_rfl
@[simp] theorem ty_spread105 : spreads Tryz.prog (some 105) = false := by kernel_rfl
@[simp] theorem ty_agg107 : tagg Tryz.prog 107 = some false := by kernel_rfl
@[simp] theorem ty_size107 : tsize Tryz.prog 107 = some 1 := by kernel_rfl
@[simp] theorem ty_zero107 : tzero Tryz.prog 107 = some (.pure .nili) := by kernel_rfl
@[simp] theorem ty_arr107 : tarrS Tryz.prog 107 = none := by kernel_rfl
@[simp] theorem ty_spread107 : spreads Tryz.prog (some 107) = false := by kernel_rfl
@[simp] theorem ty_und107 : Tryz.prog.underlying 107 = some (.interface #[("Error", 112)]) := by kernel_rfl
@[simp] theorem ty_agg118 : tagg Tryz.prog 118 = some false := by kernel_rfl
@[simp] theorem ty_size118 : tsize Tryz.prog 118 = some 1 := by kernel_rfl
@[simp] theorem ty_zero118 : tzero Tryz.prog 118 = some (.pure .nilp) := by kernel_rfl
@[simp] theorem ty_arr118 : tarrS Tryz.prog 118 = none := by kernel_rfl
@[simp] theorem ty_spread118 : spreads Tryz.prog (some 118) = false := by kernel_rfl
@[simp] theorem ty_und118 : Tryz.prog.underlying 118 = some (.pointer 25) := by kernel_rfl
@[simp] theorem ty_agg162 : tagg Tryz.prog 162 = some false := by kernel_rfl
@[simp] theorem ty_size162 : tsize Tryz.prog 162 = some 1 := by kernel_rfl
@[simp] theorem ty_zero162 : tzero Tryz.prog 162 = some (.pure .nilp) := by kernel_rfl
@[simp] theorem ty_arr162 : tarrS Tryz.prog 162 = none := by kernel_rfl
@[simp] theorem ty_spread162 : spreads Tryz.prog (some 162) = false := by kernel_rfl
@[simp] theorem ty_und162 : Tryz.prog.underlying 162 = some (.pointer 5) := by kernel_rfl
@[simp] theorem ty_fs25_0 : tfs Tryz.prog 25 0 = some (0, (some 1)) := by kernel_rfl
@[simp] theorem ty_fa25_0 : tfa Tryz.prog 25 0 = some (0, (some false), (some 1)) := by kernel_rfl
@[simp] theorem ty_fs25_1 : tfs Tryz.prog 25 1 = some (1, (some 1)) := by kernel_rfl
@[simp] theorem ty_fa25_1 : tfa Tryz.prog 25 1 = some (1, (some false), (some 1)) := by kernel_rfl
@[simp] theorem ty_fs80_0 : tfs Tryz.prog 80 0 = some (0, (some 1)) := by kernel_rfl
@[simp] theorem ty_fa80_0 : tfa Tryz.prog 80 0 = some (0, (some false), (some 1)) := by kernel_rfl
@[simp] theorem ty_fs80_1 : tfs Tryz.prog 80 1 = some (1, (some 1)) := by kernel_rfl
@[simp] theorem ty_fa80_1 : tfa Tryz.prog 80 1 = some (1, (some false), (some 1)) := by kernel_rfl
@[simp] theorem ty_fs93_0 : tfs Tryz.prog 93 0 = some (0, (some 2)) := by kernel_rfl
@[simp] theorem ty_fa93_0 : tfa Tryz.prog 93 0 = some (0, (some true), (some 2)) := by kernel_rfl
@[simp] theorem ty_fs93_1 : tfs Tryz.prog 93 1 = some (2, (some 2)) := by kernel_rfl
@[simp] theorem ty_fa93_1 : tfa Tryz.prog 93 1 = some (2, (some true), (some 2)) := by kernel_rfl
@[simp] theorem ty_fs93_2 : tfs Tryz.prog 93 2 = some (4, (some 2)) := by kernel_rfl
@[simp] theorem ty_fa93_2 : tfa Tryz.prog 93 2 = some (4, (some true), (some 2)) := by kernel_rfl
@[simp] theorem ty_fs93_3 : tfs Tryz.prog 93 3 = some (6, (some 1)) := by kernel_rfl
@[simp] theorem ty_fa93_3 : tfa Tryz.prog 93 3 = some (6, (some false), (some 1)) := by kernel_rfl
@[simp] theorem ty_fs96_0 : tfs Tryz.prog 96 0 = some (0, (some 1)) := by kernel_rfl
@[simp] theorem ty_fa96_0 : tfa Tryz.prog 96 0 = some (0, (some false), (some 1)) := by kernel_rfl
@[simp] theorem ty_fs96_1 : tfs Tryz.prog 96 1 = some (1, (some 1)) := by kernel_rfl
@[simp] theorem ty_fa96_1 : tfa Tryz.prog 96 1 = some (1, (some false), (some 1)) := by kernel_rfl
@[simp] theorem ty_fs99_0 : tfs Tryz.prog 99 0 = some (0, (some 1)) := by kernel_rfl
@[simp] theorem ty_fa99_0 : tfa Tryz.prog 99 0 = some (0, (some false), (some 1)) := by kernel_rfl
@[simp] theorem ty_fs105_1 : tfs Tryz.prog 105 1 = some (1, (some 1)) := by kernel_rfl
@[simp] theorem ty_fa105_1 : tfa Tryz.prog 105 1 = some (1, (some false), (some 1)) := by kernel_rfl
attribute [simp] Tryz.results3 Tryz.ntmps3
attribute [simp] Tryz.results7 Tryz.ntmps7
attribute [simp] Tryz.results9 Tryz.ntmps9
attribute [simp] Tryz.results10 Tryz.ntmps10
attribute [simp] Tryz.results11 Tryz.ntmps11
attribute [simp] Tryz.results12 Tryz.ntmps12
attribute [simp] Tryz.results13 Tryz.ntmps13
attribute [simp] Tryz.results14 Tryz.ntmps14
attribute [simp] Tryz.results15 Tryz.ntmps15
attribute [simp] Tryz.results16 Tryz.ntmps16
attribute [simp] Tryz.results27 Tryz.ntmps27
attribute [simp] Tryz.results42 Tryz.ntmps42
attribute [simp] Tryz.results43 Tryz.ntmps43
attribute [simp] Tryz.results44 Tryz.ntmps44
attribute [simp] Tryz.results45 Tryz.ntmps45
attribute [simp] Tryz.results46 Tryz.ntmps46
attribute [simp] Tryz.results47 Tryz.ntmps47
attribute [simp] Tryz.results48 Tryz.ntmps48
attribute [simp] Tryz.results49 Tryz.ntmps49
attribute [simp] Tryz.results50 Tryz.ntmps50
attribute [simp] Tryz.results52 Tryz.ntmps52
attribute [simp] Tryz.results53 Tryz.ntmps53
attribute [simp] Tryz.results54 Tryz.ntmps54
attribute [simp] Tryz.results56 Tryz.ntmps56
attribute [simp] Tryz.results57 Tryz.ntmps57
attribute [simp] Tryz.results58 Tryz.ntmps58
attribute [simp] Tryz.results59 Tryz.ntmps59
attribute [simp] Tryz.results85 Tryz.ntmps85
attribute [simp] Tryz.results89 Tryz.ntmps89
attribute [simp] Tryz.results92 Tryz.ntmps92
attribute [simp] Tryz.results93 Tryz.ntmps93
attribute [simp] Tryz.results96 Tryz.ntmps96
attribute [simp] Tryz.results122 Tryz.ntmps122
end Go.Gh
