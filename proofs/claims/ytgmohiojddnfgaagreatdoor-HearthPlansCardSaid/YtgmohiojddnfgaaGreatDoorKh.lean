/- The context of the closed run of layer 7's awake. -/
import Derived.Test.YtgmohiojddnfgaaGreatDoorExt
import Derived.Test.YtgmohiojddnfgaaGreatDoorGhost28
import Derived.Test.YtgmohiojddnfgaaGreatDoorEqs
import Derived.Test.YtgmohiojddnfgaaGreatDoorLay
namespace Go.Gh
open Go.Proofs
set_option maxRecDepth 100000

def annH (f r : Nat) : Option (List Nat × List Nat) :=
  match f, r with
  | 34, 7 => some ([5, 14, 15, 16], [5])
  | 39, 5 => some ([0, 1, 5], [4])
  | 48, 5 => some ([1, 14, 15, 16], [1, 2])
  | 48, 15 => some ([6, 35, 36, 37], [2])
  | 83, 5 => some ([3, 4, 17, 18], [4])
  | 83, 9 => some ([3, 4, 5, 6, 17, 18, 22], [3, 4, 6, 17, 18])
  | 86, 4 => some ([1, 2, 6, 7, 12, 13, 14], [6, 7])
  | 115, 4 => some ([2, 3, 5, 16, 17, 18], [2, 3, 5])
  | 115, 11 => some ([2, 5, 8, 9], [5])
  | 115, 14 => some ([2, 5, 8, 9, 31, 32, 33], [2, 5, 8, 9])
  | 116, 4 => some ([2, 3, 8, 9, 10], [2, 3])
  | 116, 7 => some ([2, 3, 8, 9, 10, 14, 15], [2, 3, 8, 9, 10])
  | 117, 9 => some ([6, 7, 20, 21, 22], [4])
  | 118, 4 => some ([0, 1, 2, 3, 5, 6, 7], [0, 1, 2, 3, 5, 6, 7])
  | 118, 100004 => some ([0, 1, 2, 3, 5, 6, 7], [])
  | 120, 4 => some ([2, 3, 4, 11, 12], [2, 3, 4])
  | 121, 3 => some ([3, 4, 5, 6, 11, 12], [3, 6])
  | _, _ => none
def upH (f d : Nat) : Up :=
  match f, d with
  | 34, 24 => .scopes 1
  | 37, 31 => .box 11
  | 83, 41 => .scopes 1
  | 86, 78 => .scopes 1
  | _, _ => .scopes 0
def keepH (f : Nat) : Bool :=
  match f with
  | 88 => true
  | 115 => true
  | 35 => true
  | _ => false
def frzH (f : Nat) : Bool :=
  match f with
  | 37 => true
  | 36 => true
  | 48 => true
  | 34 => true
  | 117 => true
  | _ => false
def borH (f : Nat) : Bool :=
  match f with
  | _ => false
def clnH (f : Nat) : Bool :=
  match f with
  | _ => false
def ownH (f d : Nat) : Bool :=
  match f, d with
  | 35, 13 => true
  | 35, 16 => true
  | _, _ => false
def extH : Nat → Option (List GV → Heap → Option (GV × Heap))
  | _ => none
def eqsH (t : Nat) : Option (List SK) :=
  match t with
  | 80 => some [.int .i64, .int .i64]
  | _ => none
def typH (t : Nat) : Bool :=
  match t with
  | 5 => true
  | 105 => true
  | _ => false
def liftH (f d : Nat) : Option Nat :=
  match f, d with
  | _, _ => none
def rowH (f d : Nat) : Option Nat :=
  match f, d with
  | _, _ => none
noncomputable def KH : Ctx := { P := Tryz.prog, keep := keepH, ann := annH, up := upH, own := ownH, frz := frzH, bor := borH, car := fun _ _ => false, cln := clnH, lift := liftH, row := rowH, eqs := eqsH, typ := typH, ext := extH }
theorem clnH_no {f : Nat} (h1 : clnH f = true) (h2 : extH f = none) : False := nomatch h1
theorem extH_ok {f : Nat} {e : List GV → Heap → Option (GV × Heap)} (h : extH f = some e) : ExtOk Tryz.prog f e := nomatch h
theorem eqsH_ok (t : Nat) (ks : List SK) (h : eqsH t = some ks) : EqOk Tryz.prog t ks := by
  unfold eqsH at h
  split at h
  all_goals first | (cases h; exact eqOk_of (P := Tryz.prog) 5 (by omega) (by kernel_rfl) (by kernel_rfl) (by kernel_rfl)) | cases h
theorem ctxH : CtxOk KH where
  cln := fun f h1 h2 => (clnH_no (f := f) h1 h2).elim
  eqs := eqsH_ok
  mixed := by kernel_rfl
  ext := fun f e _ h => extH_ok h
end Go.Gh
