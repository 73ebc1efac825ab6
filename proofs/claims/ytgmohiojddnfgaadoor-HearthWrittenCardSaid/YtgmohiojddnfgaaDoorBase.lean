/- The context of a seat: annotations of its functions, facts on its types (made by program). -/
import Derived.Test.YtgmohiojddnfgaaDoorWp4
import Derived.Test.YtgmohiojddnfgaaDoorTold
import Derived.Test.YtgmohiojddnfgaaDoorProg
import Derived.KernelRfl
namespace Go.Gh
open Go.Proofs
set_option linter.unusedSimpArgs false
set_option linter.unusedVariables false

def annT : List (Nat × Nat × List Nat × List Nat) := [(9, 5, [1, 14, 15, 16], [1, 2]), (9, 15, [6, 35, 36, 37], [2]), (19, 4, [0, 4, 5, 6], [0, 4, 5]), (19, 9, [0, 4, 5, 7, 8], [4, 5]), (20, 4, [0, 3, 4], [3]), (21, 8, [1, 5, 6, 18, 19, 20], [1, 5, 6]), (21, 16, [1, 5, 6, 53, 54, 55], [1, 5, 6]), (22, 8, [2, 5, 6, 7, 8, 26, 27, 28], [2, 3, 4, 5, 6, 7, 8]), (23, 5, [2, 3, 5], [2, 3, 4]), (23, 10, [2, 3, 6], [4]), (48, 3, [2, 9, 10, 11], []), (53, 6, [6, 15, 16, 17], [4, 5, 6])]
def upT : List (Nat × Nat × Up) := [(19, 33, .box 5), (19, 67, .box 5), (49, 14, .box 0), (53, 46, .scopes 1), (54, 78, .box 0), (54, 107, .box 0)]
def annOf (f r : Nat) : Option (List Nat × List Nat) := (annT.find? fun x => x.1 == f && x.2.1 == r).map fun x => x.2.2
def upOf (f d : Nat) : Up := ((upT.find? fun x => x.1 == f && x.2.1 == d).map fun x => x.2.2).getD (.scopes 0)
def needL : List (Nat × Nat × List (Nat × Nat)) := [(19, 5, [(3, 1), (5, 1), (9, 1), (10, 1), (12, 1)]), (19, 11, [(7, 1), (10, 1)]), (51, 1, [(8, 4), (9, 4)])]
def needT (f r : Nat) : List (Nat × Nat) := ((needL.find? fun x => x.1 == f && x.2.1 == r).map fun x => x.2.2).getD []
def eqsOf : Nat → Option (List SK)
  | 28 => some [.int .i64, .int .i64]
  | 33 => some [.int .i64, .int .i64, .int .i64, .int .i64, .int .i64, .int .i64, .bool]
  | _ => none
def typL : List Nat := [5, 104]
def extOf : Nat → Option (List GV → Heap → Option (GV × Heap))
  | 50 => some extItoa
  | 79 => some (extAtoi 203)
  | 52 => some extSplit
  | 76 => some (extCopy 104)
  | 8 => some (extTold [([], .bool true)])
  | _ => none
@[simp] theorem eqsOf_28 : eqsOf 28 = some [.int .i64, .int .i64] := .trans rfl rfl
@[simp] theorem eqsOf_33 : eqsOf 33 = some [.int .i64, .int .i64, .int .i64, .int .i64, .int .i64, .int .i64, .bool] := .trans rfl rfl
def keepL : List Nat := [20]
def frzL : List Nat := [9, 21, 23]
def borL : List Nat := []
def clnL : List Nat := [8, 50, 52, 76, 79]
def ownL : List (Nat × Nat) := []
def carL : List (Nat × Nat) := []
def liftOf (f d : Nat) : Option Nat :=  none
def rowOf (_ _ : Nat) : Option Nat := none
/-- The context; its second one has no function that is trusted with empty slices. -/
noncomputable def KC0 (cl : List Nat) : Ctx := { P := Tryd.prog, keep := fun f => keepL.contains f, ann := annOf, up := upOf, own := fun f d => ownL.contains (f, d), frz := fun f => frzL.contains f, bor := fun f => borL.contains f, car := fun f r => carL.contains (f, r), cln := fun f => cl.contains f, lift := liftOf, row := rowOf, eqs := eqsOf, typ := fun t => typL.contains t, ext := extOf }
noncomputable def KC : Ctx := KC0 clnL
section
@[simp] theorem KC_P : KC.P = Tryd.prog := .trans rfl rfl
@[simp] theorem KC_own {f d : Nat} : KC.own f d = ownL.contains (f, d) := .trans rfl rfl
@[simp] theorem KC_lift {f d : Nat} : KC.lift f d = liftOf f d := .trans rfl rfl
@[simp] theorem KC_row {f d : Nat} : KC.row f d = rowOf f d := .trans rfl rfl
attribute [simp] liftOf ownL rowOf
@[simp] theorem KC_typ {t : Nat} : KC.typ t = typL.contains t := .trans rfl rfl
attribute [simp] typL
@[simp] theorem ty_typ3 : typE KC 3 = false := by kernel_rfl
@[simp] theorem ty_typ4 : typE KC 4 = false := by kernel_rfl
@[simp] theorem ty_typ9 : typE KC 9 = false := by kernel_rfl
@[simp] theorem ty_typ22 : typE KC 22 = false := by kernel_rfl
@[simp] theorem ty_typ23 : typE KC 23 = false := by kernel_rfl
@[simp] theorem ty_typ25 : typE KC 25 = false := by kernel_rfl
@[simp] theorem ty_typ28 : typE KC 28 = false := by kernel_rfl
@[simp] theorem ty_typ30 : typE KC 30 = false := by kernel_rfl
@[simp] theorem ty_typ33 : typE KC 33 = false := by kernel_rfl
@[simp] theorem ty_typ35 : typE KC 35 = false := by kernel_rfl
@[simp] theorem ty_typ37 : typE KC 37 = false := by kernel_rfl
@[simp] theorem ty_typ57 : typE KC 57 = false := by kernel_rfl
@[simp] theorem ty_typ97 : typE KC 97 = false := by kernel_rfl
@[simp] theorem ty_typ99 : typE KC 99 = false := by kernel_rfl
@[simp] theorem ty_typ101 : typE KC 101 = false := by kernel_rfl
@[simp] theorem ty_typ102 : typE KC 102 = true := by kernel_rfl
@[simp] theorem ty_typ104 : typE KC 104 = false := by kernel_rfl
@[simp] theorem ty_typ106 : typE KC 106 = false := by kernel_rfl
@[simp] theorem ty_typ112 : typE KC 112 = false := by kernel_rfl
@[simp] theorem ty_typ117 : typE KC 117 = false := by kernel_rfl
@[simp] theorem ty_typ155 : typE KC 155 = false := by kernel_rfl
@[simp] theorem KC_ann_9_5 : KC.ann 9 5 = some ([1, 14, 15, 16], [1, 2]) := by kernel_rfl
@[simp] theorem KC_car_9_5 : KC.car 9 5 = false := by kernel_rfl
@[simp] theorem KC_ann_9_15 : KC.ann 9 15 = some ([6, 35, 36, 37], [2]) := by kernel_rfl
@[simp] theorem KC_car_9_15 : KC.car 9 15 = false := by kernel_rfl
@[simp] theorem KC_ann_19_4 : KC.ann 19 4 = some ([0, 4, 5, 6], [0, 4, 5]) := by kernel_rfl
@[simp] theorem KC_car_19_4 : KC.car 19 4 = false := by kernel_rfl
@[simp] theorem KC_ann_19_9 : KC.ann 19 9 = some ([0, 4, 5, 7, 8], [4, 5]) := by kernel_rfl
@[simp] theorem KC_car_19_9 : KC.car 19 9 = false := by kernel_rfl
@[simp] theorem KC_ann_20_4 : KC.ann 20 4 = some ([0, 3, 4], [3]) := by kernel_rfl
@[simp] theorem KC_car_20_4 : KC.car 20 4 = false := by kernel_rfl
@[simp] theorem KC_ann_21_8 : KC.ann 21 8 = some ([1, 5, 6, 18, 19, 20], [1, 5, 6]) := by kernel_rfl
@[simp] theorem KC_car_21_8 : KC.car 21 8 = false := by kernel_rfl
@[simp] theorem KC_ann_21_16 : KC.ann 21 16 = some ([1, 5, 6, 53, 54, 55], [1, 5, 6]) := by kernel_rfl
@[simp] theorem KC_car_21_16 : KC.car 21 16 = false := by kernel_rfl
@[simp] theorem KC_ann_22_8 : KC.ann 22 8 = some ([2, 5, 6, 7, 8, 26, 27, 28], [2, 3, 4, 5, 6, 7, 8]) := by kernel_rfl
@[simp] theorem KC_car_22_8 : KC.car 22 8 = false := by kernel_rfl
@[simp] theorem KC_ann_23_5 : KC.ann 23 5 = some ([2, 3, 5], [2, 3, 4]) := by kernel_rfl
@[simp] theorem KC_car_23_5 : KC.car 23 5 = false := by kernel_rfl
@[simp] theorem KC_ann_23_10 : KC.ann 23 10 = some ([2, 3, 6], [4]) := by kernel_rfl
@[simp] theorem KC_car_23_10 : KC.car 23 10 = false := by kernel_rfl
@[simp] theorem KC_ann_48_3 : KC.ann 48 3 = some ([2, 9, 10, 11], []) := by kernel_rfl
@[simp] theorem KC_car_48_3 : KC.car 48 3 = false := by kernel_rfl
@[simp] theorem KC_ann_53_6 : KC.ann 53 6 = some ([6, 15, 16, 17], [4, 5, 6]) := by kernel_rfl
@[simp] theorem KC_car_53_6 : KC.car 53 6 = false := by kernel_rfl
@[simp] theorem KC_up_19_33 : KC.up 19 33 = .box 5 := by kernel_rfl
@[simp] theorem KC_up_19_67 : KC.up 19 67 = .box 5 := by kernel_rfl
@[simp] theorem KC_up_49_14 : KC.up 49 14 = .box 0 := by kernel_rfl
@[simp] theorem KC_up_53_46 : KC.up 53 46 = .scopes 1 := by kernel_rfl
@[simp] theorem KC_up_54_78 : KC.up 54 78 = .box 0 := by kernel_rfl
@[simp] theorem KC_up_54_107 : KC.up 54 107 = .box 0 := by kernel_rfl
@[simp] theorem need_19_5 : needT 19 5 = [(3, 1), (5, 1), (9, 1), (10, 1), (12, 1)] := by kernel_rfl
@[simp] theorem need_19_11 : needT 19 11 = [(7, 1), (10, 1)] := by kernel_rfl
@[simp] theorem need_20_5 : needT 20 5 = [] := by kernel_rfl
@[simp] theorem need_22_17 : needT 22 17 = [] := by kernel_rfl
@[simp] theorem need_23_6 : needT 23 6 = [] := by kernel_rfl
@[simp] theorem need_23_11 : needT 23 11 = [] := by kernel_rfl
@[simp] theorem need_51_1 : needT 51 1 = [(8, 4), (9, 4)] := by kernel_rfl
@[simp] theorem need_54_4 : needT 54 4 = [] := by kernel_rfl
@[simp] theorem need_54_9 : needT 54 9 = [] := by kernel_rfl
@[simp] theorem KC_eqs {t : Nat} : KC.eqs t = eqsOf t := .trans rfl rfl
end

@[simp] theorem ty_agg3 : tagg Tryd.prog 3 = some false := by kernel_rfl
@[simp] theorem ty_size3 : tsize Tryd.prog 3 = some 1 := by kernel_rfl
@[simp] theorem ty_zero3 : tzero Tryd.prog 3 = some (.pure (.int .i64 0)) := by kernel_rfl
@[simp] theorem ty_arr3 : tarrS Tryd.prog 3 = none := by kernel_rfl
@[simp] theorem ty_spread3 : spreads Tryd.prog (some 3) = false := by kernel_rfl
@[simp] theorem ty_und3 : Tryd.prog.underlying 3 = some (.int .i64) := by kernel_rfl
@[simp] theorem ty_key3 (n : Int) : keyFits Tryd.prog 3 (.int .i64 n) = true := by kernel_rfl
@[simp] theorem ty_agg4 : tagg Tryd.prog 4 = some false := by kernel_rfl
@[simp] theorem ty_size4 : tsize Tryd.prog 4 = some 1 := by kernel_rfl
@[simp] theorem ty_zero4 : tzero Tryd.prog 4 = some (.pure (.bool false)) := by kernel_rfl
@[simp] theorem ty_arr4 : tarrS Tryd.prog 4 = none := by kernel_rfl
@[simp] theorem ty_spread4 : spreads Tryd.prog (some 4) = false := by kernel_rfl
@[simp] theorem ty_und4 : Tryd.prog.underlying 4 = some .bool := by kernel_rfl
@[simp] theorem ty_agg9 : tagg Tryd.prog 9 = some false := by kernel_rfl
@[simp] theorem ty_size9 : tsize Tryd.prog 9 = some 1 := by kernel_rfl
@[simp] theorem ty_zero9 : tzero Tryd.prog 9 = some (.pure (.str [])) := by kernel_rfl
@[simp] theorem ty_arr9 : tarrS Tryd.prog 9 = none := by kernel_rfl
@[simp] theorem ty_spread9 : spreads Tryd.prog (some 9) = true := by kernel_rfl
@[simp] theorem ty_und9 : Tryd.prog.underlying 9 = some .string := by kernel_rfl
@[simp] theorem ty_key9 (s : List UInt8) : keyFits Tryd.prog 9 (.str s) = true := by kernel_rfl
@[simp] theorem ty_agg22 : tagg Tryd.prog 22 = some false := by kernel_rfl
@[simp] theorem ty_size22 : tsize Tryd.prog 22 = some 1 := by kernel_rfl
@[simp] theorem ty_zero22 : tzero Tryd.prog 22 = some .nils := by kernel_rfl
@[simp] theorem ty_elem22 : telemS Tryd.prog 22 = some (some 7) := by kernel_rfl
@[simp] theorem ty_arr22 : tarrS Tryd.prog 22 = none := by kernel_rfl
@[simp] theorem ty_app22 : tapp Tryd.prog 22 = some ((some 7), (some 56), (some 7)) := by kernel_rfl
@[simp] theorem ty_lit22 : tlit Tryd.prog 22 = some ((some 7), (some [(.pure (.int .i64 0)), (.pure (.int .i64 0)), (.pure (.int .i64 0)), (.pure (.int .i64 0)), (.pure (.int .i64 0)), (.pure (.int .i64 0)), (.pure (.bool false))])) := by kernel_rfl
@[simp] theorem ty_mk22 : tmk Tryd.prog 22 = some ((some 7), (some 56), (some [(.int .i64 0), (.int .i64 0), (.int .i64 0), (.int .i64 0), (.int .i64 0), (.int .i64 0), (.bool false)])) := by kernel_rfl
@[simp] theorem ty_spread22 : spreads Tryd.prog (some 22) = true := by kernel_rfl
@[simp] theorem ty_und22 : Tryd.prog.underlying 22 = some (.slice 33) := by kernel_rfl
@[simp] theorem ty_agg23 : tagg Tryd.prog 23 = some false := by kernel_rfl
@[simp] theorem ty_size23 : tsize Tryd.prog 23 = some 1 := by kernel_rfl
@[simp] theorem ty_zero23 : tzero Tryd.prog 23 = some .nils := by kernel_rfl
@[simp] theorem ty_elem23 : telemS Tryd.prog 23 = some (some 2) := by kernel_rfl
@[simp] theorem ty_arr23 : tarrS Tryd.prog 23 = none := by kernel_rfl
@[simp] theorem ty_app23 : tapp Tryd.prog 23 = some ((some 2), (some 16), (some 2)) := by kernel_rfl
@[simp] theorem ty_lit23 : tlit Tryd.prog 23 = some ((some 2), (some [(.pure (.int .i64 0)), (.pure (.int .i64 0))])) := by kernel_rfl
@[simp] theorem ty_mk23 : tmk Tryd.prog 23 = some ((some 2), (some 16), (some [(.int .i64 0), (.int .i64 0)])) := by kernel_rfl
@[simp] theorem ty_spread23 : spreads Tryd.prog (some 23) = true := by kernel_rfl
@[simp] theorem ty_und23 : Tryd.prog.underlying 23 = some (.slice 28) := by kernel_rfl
@[simp] theorem ty_agg25 : tagg Tryd.prog 25 = some true := by kernel_rfl
@[simp] theorem ty_size25 : tsize Tryd.prog 25 = some 2 := by kernel_rfl
@[simp] theorem ty_zero25 : tzero Tryd.prog 25 = some (.agg [.nils, .nils]) := by kernel_rfl
@[simp] theorem ty_arr25 : tarrS Tryd.prog 25 = none := by kernel_rfl
@[simp] theorem ty_places25 : tplaces Tryd.prog 25 = some [(0, 1), (1, 1)] := by kernel_rfl
@[simp] theorem ty_spread25 : spreads Tryd.prog (some 25) = false := by kernel_rfl
@[simp] theorem ty_agg28 : tagg Tryd.prog 28 = some true := by kernel_rfl
@[simp] theorem ty_size28 : tsize Tryd.prog 28 = some 2 := by kernel_rfl
@[simp] theorem ty_zero28 : tzero Tryd.prog 28 = some (.pure (.agg [(.int .i64 0), (.int .i64 0)])) := by kernel_rfl
@[simp] theorem ty_arr28 : tarrS Tryd.prog 28 = none := by kernel_rfl
@[simp] theorem ty_places28 : tplaces Tryd.prog 28 = some [(0, 1), (1, 1)] := by kernel_rfl
@[simp] theorem ty_spread28 : spreads Tryd.prog (some 28) = false := by kernel_rfl
@[simp] theorem ty_agg30 : tagg Tryd.prog 30 = some true := by kernel_rfl
@[simp] theorem ty_size30 : tsize Tryd.prog 30 = some 2 := by kernel_rfl
@[simp] theorem ty_zero30 : tzero Tryd.prog 30 = some (.pure (.agg [(.int .i64 0), (.int .i64 0)])) := by kernel_rfl
@[simp] theorem ty_arr30 : tarrS Tryd.prog 30 = none := by kernel_rfl
@[simp] theorem ty_places30 : tplaces Tryd.prog 30 = some [(0, 1), (1, 1)] := by kernel_rfl
@[simp] theorem ty_spread30 : spreads Tryd.prog (some 30) = false := by kernel_rfl
@[simp] theorem ty_agg33 : tagg Tryd.prog 33 = some true := by kernel_rfl
@[simp] theorem ty_size33 : tsize Tryd.prog 33 = some 7 := by kernel_rfl
@[simp] theorem ty_zero33 : tzero Tryd.prog 33 = some (.pure (.agg [(.int .i64 0), (.int .i64 0), (.int .i64 0), (.int .i64 0), (.int .i64 0), (.int .i64 0), (.bool false)])) := by kernel_rfl
@[simp] theorem ty_arr33 : tarrS Tryd.prog 33 = none := by kernel_rfl
@[simp] theorem ty_places33 : tplaces Tryd.prog 33 = some [(0, 2), (2, 2), (4, 2), (6, 1)] := by kernel_rfl
@[simp] theorem ty_spread33 : spreads Tryd.prog (some 33) = false := by kernel_rfl
@[simp] theorem ty_agg35 : tagg Tryd.prog 35 = some false := by kernel_rfl
@[simp] theorem ty_size35 : tsize Tryd.prog 35 = some 1 := by kernel_rfl
@[simp] theorem ty_zero35 : tzero Tryd.prog 35 = some (.pure (.int .i64 0)) := by kernel_rfl
@[simp] theorem ty_arr35 : tarrS Tryd.prog 35 = none := by kernel_rfl
@[simp] theorem ty_spread35 : spreads Tryd.prog (some 35) = false := by kernel_rfl
@[simp] theorem ty_und35 : Tryd.prog.underlying 35 = some (.int .i64) := by kernel_rfl
@[simp] theorem ty_key35 (n : Int) : keyFits Tryd.prog 35 (.int .i64 n) = true := by kernel_rfl
@[simp] theorem ty_agg37 : tagg Tryd.prog 37 = some false := by kernel_rfl
@[simp] theorem ty_size37 : tsize Tryd.prog 37 = some 1 := by kernel_rfl
@[simp] theorem ty_zero37 : tzero Tryd.prog 37 = some .nils := by kernel_rfl
@[simp] theorem ty_elem37 : telemS Tryd.prog 37 = some (some 1) := by kernel_rfl
@[simp] theorem ty_arr37 : tarrS Tryd.prog 37 = none := by kernel_rfl
@[simp] theorem ty_app37 : tapp Tryd.prog 37 = some ((some 1), (some 8), (some 1)) := by kernel_rfl
@[simp] theorem ty_lit37 : tlit Tryd.prog 37 = some ((some 1), (some [(.pure (.int .i64 0))])) := by kernel_rfl
@[simp] theorem ty_mk37 : tmk Tryd.prog 37 = some ((some 1), (some 8), (some [(.int .i64 0)])) := by kernel_rfl
@[simp] theorem ty_spread37 : spreads Tryd.prog (some 37) = true := by kernel_rfl
@[simp] theorem ty_und37 : Tryd.prog.underlying 37 = some (.slice 3) := by kernel_rfl
@[simp] theorem ty_agg57 : tagg Tryd.prog 57 = some false := by kernel_rfl
@[simp] theorem ty_size57 : tsize Tryd.prog 57 = some 1 := by kernel_rfl
@[simp] theorem ty_zero57 : tzero Tryd.prog 57 = some (.pure .nilp) := by kernel_rfl
@[simp] theorem ty_arr57 : tarrS Tryd.prog 57 = none := by kernel_rfl
@[simp] theorem ty_spread57 : spreads Tryd.prog (some 57) = false := by kernel_rfl
@[simp] theorem ty_und57 : Tryd.prog.underlying 57 = some (.pointer 99) := by kernel_rfl
@[simp] theorem ty_agg97 : tagg Tryd.prog 97 = some false := by kernel_rfl
@[simp] theorem ty_size97 : tsize Tryd.prog 97 = some 1 := by kernel_rfl
@[simp] theorem ty_zero97 : tzero Tryd.prog 97 = some (.pure (.int .u64 0)) := by kernel_rfl
@[simp] theorem ty_arr97 : tarrS Tryd.prog 97 = none := by kernel_rfl
@[simp] theorem ty_spread97 : spreads Tryd.prog (some 97) = false := by kernel_rfl
@[simp] theorem ty_und97 : Tryd.prog.underlying 97 = some (.int .u64) := by kernel_rfl
@[simp] theorem ty_key97 (n : Int) : keyFits Tryd.prog 97 (.int .u64 n) = true := by kernel_rfl
@[simp] theorem ty_agg99 : tagg Tryd.prog 99 = some true := by kernel_rfl
@[simp] theorem ty_size99 : tsize Tryd.prog 99 = some 1 := by kernel_rfl
@[simp] theorem ty_zero99 : tzero Tryd.prog 99 = some (.pure (.agg [(.int .u64 0)])) := by kernel_rfl
@[simp] theorem ty_arr99 : tarrS Tryd.prog 99 = none := by kernel_rfl
@[simp] theorem ty_places99 : tplaces Tryd.prog 99 = some [(0, 1)] := by kernel_rfl
@[simp] theorem ty_spread99 : spreads Tryd.prog (some 99) = false := by kernel_rfl
@[simp] theorem ty_agg101 : tagg Tryd.prog 101 = some false := by kernel_rfl
@[simp] theorem ty_size101 : tsize Tryd.prog 101 = some 1 := by kernel_rfl
@[simp] theorem ty_zero101 : tzero Tryd.prog 101 = some (.pure .nilp) := by kernel_rfl
@[simp] theorem ty_arr101 : tarrS Tryd.prog 101 = none := by kernel_rfl
@[simp] theorem ty_spread101 : spreads Tryd.prog (some 101) = false := by kernel_rfl
@[simp] theorem ty_und101 : Tryd.prog.underlying 101 = some (.pointer 104) := by kernel_rfl
@[simp] theorem ty_agg102 : tagg Tryd.prog 102 = some false := by kernel_rfl
@[simp] theorem ty_size102 : tsize Tryd.prog 102 = some 1 := by kernel_rfl
@[simp] theorem ty_zero102 : tzero Tryd.prog 102 = some .nils := by kernel_rfl
@[simp] theorem ty_elem102 : telemS Tryd.prog 102 = some (some 1) := by kernel_rfl
@[simp] theorem ty_arr102 : tarrS Tryd.prog 102 = none := by kernel_rfl
@[simp] theorem ty_app102 : tapp Tryd.prog 102 = some ((some 1), (some 1), (some 1)) := by kernel_rfl
@[simp] theorem ty_lit102 : tlit Tryd.prog 102 = some ((some 1), (some [(.pure (.int .u8 0))])) := by kernel_rfl
@[simp] theorem ty_mk102 : tmk Tryd.prog 102 = some ((some 1), (some 1), (some [(.int .u8 0)])) := by kernel_rfl
@[simp] theorem ty_spread102 : spreads Tryd.prog (some 102) = true := by kernel_rfl
@[simp] theorem ty_und102 : Tryd.prog.underlying 102 = some (.slice 5) := by kernel_rfl
@[simp] theorem ty_agg104 : tagg Tryd.prog 104 = some true := by kernel_rfl
@[simp] theorem ty_size104 : tsize Tryd.prog 104 = some 2 := by kernel_rfl
@[simp] theorem ty_zero104 : tzero Tryd.prog 104 = some (.agg [(.pure .nilp), .nils]) := by kernel_rfl
@[simp] theorem ty_arr104 : tarrS Tryd.prog 104 = none := by kernel_rfl
@[simp] theorem ty_places104 : tplaces Tryd.prog 104 = some [(0, 1), (1, 1)] := by kernel_rfl
@[simp] theorem ty_spread104 : spreads Tryd.prog (some 104) = false := by kernel_rfl
@[simp] theorem ty_agg106 : tagg Tryd.prog 106 = some false := by kernel_rfl
@[simp] theorem ty_size106 : tsize Tryd.prog 106 = some 1 := by kernel_rfl
@[simp] theorem ty_zero106 : tzero Tryd.prog 106 = some (.pure .nili) := by kernel_rfl
@[simp] theorem ty_arr106 : tarrS Tryd.prog 106 = none := by kernel_rfl
@[simp] theorem ty_spread106 : spreads Tryd.prog (some 106) = false := by kernel_rfl
@[simp] theorem ty_und106 : Tryd.prog.underlying 106 = some (.interface #[("Error", 111)]) := by kernel_rfl
@[simp] theorem ty_agg112 : tagg Tryd.prog 112 = some false := by kernel_rfl
@[simp] theorem ty_size112 : tsize Tryd.prog 112 = some 1 := by kernel_rfl
@[simp] theorem ty_zero112 : tzero Tryd.prog 112 = some .nils := by kernel_rfl
@[simp] theorem ty_elem112 : telemS Tryd.prog 112 = some (some 1) := by kernel_rfl
@[simp] theorem ty_arr112 : tarrS Tryd.prog 112 = none := by kernel_rfl
@[simp] theorem ty_app112 : tapp Tryd.prog 112 = some ((some 1), (some 16), (some 1)) := by kernel_rfl
@[simp] theorem ty_lit112 : tlit Tryd.prog 112 = some ((some 1), (some [(.pure (.str []))])) := by kernel_rfl
@[simp] theorem ty_mk112 : tmk Tryd.prog 112 = some ((some 1), (some 16), (some [(.str [])])) := by kernel_rfl
@[simp] theorem ty_spread112 : spreads Tryd.prog (some 112) = true := by kernel_rfl
@[simp] theorem ty_und112 : Tryd.prog.underlying 112 = some (.slice 9) := by kernel_rfl
@[simp] theorem ty_agg117 : tagg Tryd.prog 117 = some false := by kernel_rfl
@[simp] theorem ty_size117 : tsize Tryd.prog 117 = some 1 := by kernel_rfl
@[simp] theorem ty_zero117 : tzero Tryd.prog 117 = some (.pure .nilp) := by kernel_rfl
@[simp] theorem ty_arr117 : tarrS Tryd.prog 117 = none := by kernel_rfl
@[simp] theorem ty_spread117 : spreads Tryd.prog (some 117) = false := by kernel_rfl
@[simp] theorem ty_und117 : Tryd.prog.underlying 117 = some (.pointer 25) := by kernel_rfl
@[simp] theorem ty_agg155 : tagg Tryd.prog 155 = some false := by kernel_rfl
@[simp] theorem ty_size155 : tsize Tryd.prog 155 = some 1 := by kernel_rfl
@[simp] theorem ty_zero155 : tzero Tryd.prog 155 = some (.pure .nilp) := by kernel_rfl
@[simp] theorem ty_arr155 : tarrS Tryd.prog 155 = none := by kernel_rfl
@[simp] theorem ty_spread155 : spreads Tryd.prog (some 155) = false := by kernel_rfl
@[simp] theorem ty_und155 : Tryd.prog.underlying 155 = some (.pointer 5) := by kernel_rfl
@[simp] theorem ty_fs25_0 : tfs Tryd.prog 25 0 = some (0, (some 1)) := by kernel_rfl
@[simp] theorem ty_fa25_0 : tfa Tryd.prog 25 0 = some (0, (some false), (some 1)) := by kernel_rfl
@[simp] theorem ty_fs25_1 : tfs Tryd.prog 25 1 = some (1, (some 1)) := by kernel_rfl
@[simp] theorem ty_fa25_1 : tfa Tryd.prog 25 1 = some (1, (some false), (some 1)) := by kernel_rfl
@[simp] theorem ty_fs28_0 : tfs Tryd.prog 28 0 = some (0, (some 1)) := by kernel_rfl
@[simp] theorem ty_fa28_0 : tfa Tryd.prog 28 0 = some (0, (some false), (some 1)) := by kernel_rfl
@[simp] theorem ty_fs28_1 : tfs Tryd.prog 28 1 = some (1, (some 1)) := by kernel_rfl
@[simp] theorem ty_fa28_1 : tfa Tryd.prog 28 1 = some (1, (some false), (some 1)) := by kernel_rfl
@[simp] theorem ty_fs30_0 : tfs Tryd.prog 30 0 = some (0, (some 1)) := by kernel_rfl
@[simp] theorem ty_fa30_0 : tfa Tryd.prog 30 0 = some (0, (some false), (some 1)) := by kernel_rfl
@[simp] theorem ty_fs30_1 : tfs Tryd.prog 30 1 = some (1, (some 1)) := by kernel_rfl
@[simp] theorem ty_fa30_1 : tfa Tryd.prog 30 1 = some (1, (some false), (some 1)) := by kernel_rfl
@[simp] theorem ty_fs33_0 : tfs Tryd.prog 33 0 = some (0, (some 2)) := by kernel_rfl
@[simp] theorem ty_fa33_0 : tfa Tryd.prog 33 0 = some (0, (some true), (some 2)) := by kernel_rfl
@[simp] theorem ty_fs33_1 : tfs Tryd.prog 33 1 = some (2, (some 2)) := by kernel_rfl
@[simp] theorem ty_fa33_1 : tfa Tryd.prog 33 1 = some (2, (some true), (some 2)) := by kernel_rfl
@[simp] theorem ty_fs33_2 : tfs Tryd.prog 33 2 = some (4, (some 2)) := by kernel_rfl
@[simp] theorem ty_fa33_2 : tfa Tryd.prog 33 2 = some (4, (some true), (some 2)) := by kernel_rfl
@[simp] theorem ty_fs33_3 : tfs Tryd.prog 33 3 = some (6, (some 1)) := by kernel_rfl
@[simp] theorem ty_fa33_3 : tfa Tryd.prog 33 3 = some (6, (some false), (some 1)) := by kernel_rfl
@[simp] theorem ty_fs99_0 : tfs Tryd.prog 99 0 = some (0, (some 1)) := by kernel_rfl
@[simp] theorem ty_fa99_0 : tfa Tryd.prog 99 0 = some (0, (some false), (some 1)) := by kernel_rfl
@[simp] theorem ty_fs104_1 : tfs Tryd.prog 104 1 = some (1, (some 1)) := by kernel_rfl
@[simp] theorem ty_fa104_1 : tfa Tryd.prog 104 1 = some (1, (some false), (some 1)) := by kernel_rfl
attribute [simp] Tryd.results4 Tryd.ntmps4
attribute [simp] Tryd.results9 Tryd.ntmps9
attribute [simp] Tryd.results19 Tryd.ntmps19
attribute [simp] Tryd.results20 Tryd.ntmps20
attribute [simp] Tryd.results21 Tryd.ntmps21
attribute [simp] Tryd.results22 Tryd.ntmps22
attribute [simp] Tryd.results23 Tryd.ntmps23
attribute [simp] Tryd.results32 Tryd.ntmps32
attribute [simp] Tryd.results33 Tryd.ntmps33
attribute [simp] Tryd.results41 Tryd.ntmps41
attribute [simp] Tryd.results42 Tryd.ntmps42
attribute [simp] Tryd.results43 Tryd.ntmps43
attribute [simp] Tryd.results44 Tryd.ntmps44
attribute [simp] Tryd.results45 Tryd.ntmps45
attribute [simp] Tryd.results46 Tryd.ntmps46
attribute [simp] Tryd.results47 Tryd.ntmps47
attribute [simp] Tryd.results48 Tryd.ntmps48
attribute [simp] Tryd.results49 Tryd.ntmps49
attribute [simp] Tryd.results51 Tryd.ntmps51
attribute [simp] Tryd.results53 Tryd.ntmps53
attribute [simp] Tryd.results54 Tryd.ntmps54
attribute [simp] Tryd.results65 Tryd.ntmps65
end Go.Gh
