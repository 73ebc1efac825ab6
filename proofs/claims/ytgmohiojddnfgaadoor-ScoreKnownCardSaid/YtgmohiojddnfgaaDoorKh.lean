/- The context of the closed run of ScoreKnown. -/
import Derived.Test.YtgmohiojddnfgaaDoorExt
import Derived.Test.YtgmohiojddnfgaaDoorGhost28
import Derived.Test.YtgmohiojddnfgaaDoorEqs
import Derived.Test.YtgmohiojddnfgaaDoorLay
namespace Go.Gh
open Go.Proofs
set_option maxRecDepth 100000

def annS (f r : Nat) : Option (List Nat × List Nat) :=
  match f, r with
  | 16, 5 => some ([0, 1, 5], [4])
  | 26, 3 => some ([1, 17, 18], [1, 2])
  | 26, 11 => some ([1, 30, 31, 32], [2])
  | 29, 11 => some ([1, 3, 6, 7, 30, 31, 32], [3, 6, 7, 8])
  | 29, 19 => some ([3, 6, 7, 53, 54], [6, 7])
  | 29, 23 => some ([3, 6, 7, 14, 15, 53, 54, 58, 59], [3, 6, 7, 15, 53, 54])
  | 30, 10 => some ([7, 9, 11], [0, 9])
  | 59, 8 => some ([3, 14, 15, 16], [2])
  | 60, 5 => some ([11, 12, 13], [4])
  | 61, 5 => some ([2, 3, 4, 5, 6, 7, 17, 18], [2, 3, 4, 5, 6])
  | 61, 10 => some ([2, 3, 4, 5, 6, 7, 8, 9, 17, 18, 28, 29], [2, 3, 4, 5, 6, 7, 8, 9, 17, 18])
  | 62, 4 => some ([1, 2, 3, 9, 15, 16, 17], [8])
  | 63, 11 => some ([4, 8, 9, 10, 26, 27, 28], [4, 8, 9])
  | 64, 8 => some ([1, 5, 33, 34, 35], [1, 5])
  | 64, 12 => some ([1, 5, 33, 34, 35, 40, 41, 42], [1, 5, 33, 34, 35])
  | 80, 12 => some ([1, 33, 34, 35], [1, 2])
  | 81, 5 => some ([3, 14, 15, 16], [3])
  | 83, 3 => some ([0, 1, 7, 8], [4])
  | 86, 4 => some ([1, 5, 8, 9, 10], [5])
  | 88, 7 => some ([0, 1, 7, 24, 25], [0, 1, 7])
  | 88, 13 => some ([0, 1, 7, 9, 48, 49], [0, 1, 7, 9])
  | 88, 19 => some ([0, 1, 7, 9, 59, 60], [0, 9])
  | 88, 23 => some ([0, 1, 7, 11, 12, 59, 60, 65, 66, 67], [0, 1, 7, 12, 59, 60])
  | 88, 27 => some ([0, 1, 7, 11, 12, 13, 14, 59, 60, 65, 66, 67, 75, 76], [0, 1, 7, 11, 12, 59, 60, 65, 66, 67])
  | 108, 5 => some ([3, 4, 10, 11, 12], [4])
  | 111, 6 => some ([0, 3, 4], [3])
  | _, _ => none
def upS (f d : Nat) : Up :=
  match f, d with
  | 29, 50 => .scopes 1
  | 29, 73 => .scopes 1
  | 49, 14 => .box 0
  | 81, 29 => .box 3
  | 90, 6 => .box 1
  | 101, 7 => .scopes 0
  | 108, 32 => .scopes 1
  | _, _ => .scopes 0
def keepS (f : Nat) : Bool :=
  match f with
  | 81 => true
  | 101 => true
  | _ => false
def frzS (f : Nat) : Bool :=
  match f with
  | 29 => true
  | 63 => true
  | 101 => true
  | _ => false
def borS (f : Nat) : Bool :=
  match f with
  | 27 => true
  | 62 => true
  | 111 => true
  | 60 => true
  | _ => false
def clnS (f : Nat) : Bool :=
  match f with
  | 50 => true
  | 76 => true
  | _ => false
def ownS (f d : Nat) : Bool :=
  match f, d with
  | _, _ => false
def extS : Nat → Option (List GV → Heap → Option (GV × Heap))
  | 50 => some extItoa
  | 76 => some (extCopy 104)
  | _ => none
def liftS (f d : Nat) : Option Nat := if f = 81 ∧ d = 27 then some 3 else none
def rowS (f d : Nat) : Option Nat := if f = 81 then (if d = 27 then some 77 else if d = 29 then some 77 else none) else none

def eqsS (t : Nat) : Option (List SK) :=
  match t with
  | 70 => some [.int .i64, .int .i64, .int .i64, .int .i64, .int .i64, .int .i64, .int .i64, .int .i64]
  | _ => none
def typS (t : Nat) : Bool :=
  match t with
  | 5 => true
  | 104 => true
  | _ => false
noncomputable def KS : Ctx := { P := Tryd.prog, keep := keepS, ann := annS, up := upS, own := ownS, frz := frzS, bor := borS, car := fun _ _ => false, cln := clnS, lift := liftS, row := rowS, eqs := eqsS, typ := typS, ext := extS }
theorem clnS_no {f : Nat} (h1 : clnS f = true) (h2 : extS f = none) : False := by
  unfold clnS at h1
  split at h1
  all_goals first | (cases h1; done) | (cases h2; done)
theorem extS_ok {f : Nat} {e : List GV → Heap → Option (GV × Heap)} (h : extS f = some e) : ExtOk Tryd.prog f e := by
  unfold extS at h
  split at h
  all_goals cases h
  · exact itoa_ext (ρ := Tryd.laysM171_ren) Tryd.laysM171 (by kernel_rfl)
  · exact copy_ext (ρ := Tryd.lays240_ren) Tryd.lays240 Tryd.builderX
theorem eqsS_ok (t : Nat) (ks : List SK) (h : eqsS t = some ks) : EqOk Tryd.prog t ks := by
  unfold eqsS at h
  split at h
  all_goals first | (cases h; exact eqOk_of (P := Tryd.prog) 5 (by omega) (by kernel_rfl) (by kernel_rfl) (by kernel_rfl)) | cases h
theorem ctxS : CtxOk KS where
  cln := fun f h1 h2 => (clnS_no h1 h2).elim
  eqs := eqsS_ok
  mixed := by kernel_rfl
  ext := fun f e _ h => extS_ok h
end Go.Gh
