/- The context of the closed run of HearthKnown. -/
import Derived.Test.YtgmohiojddnfgaaDoorExt
import Derived.Test.YtgmohiojddnfgaaDoorGhost28
import Derived.Test.YtgmohiojddnfgaaDoorEqs
import Derived.Test.YtgmohiojddnfgaaDoorLay
namespace Go.Gh
open Go.Proofs
set_option maxRecDepth 100000

def annH (f r : Nat) : Option (List Nat × List Nat) :=
  match f, r with
  | 3, 8 => some ([4, 5, 6], [0])
  | 9, 5 => some ([1, 14, 15, 16], [1, 2])
  | 9, 15 => some ([6, 35, 36, 37], [2])
  | 12, 7 => some ([4, 12, 26, 27, 28], [12])
  | 14, 7 => some ([8, 9, 25, 26, 27], [8, 9])
  | 16, 5 => some ([0, 1, 5], [4])
  | 17, 5 => some ([0, 1, 5], [4])
  | 21, 8 => some ([1, 5, 6, 18, 19, 20], [1, 5, 6])
  | 21, 16 => some ([1, 5, 6, 53, 54, 55], [1, 5, 6])
  | 31, 7 => some ([5, 14, 15, 16], [5])
  | 34, 4 => some ([1, 2, 6, 7, 12, 13, 14], [6, 7])
  | 35, 5 => some ([3, 4, 17, 18], [4])
  | 35, 9 => some ([3, 4, 5, 6, 17, 18, 22], [3, 4, 6, 17, 18])
  | 40, 16 => some ([13, 14, 43, 44], [10, 11])
  | 48, 3 => some ([2, 9, 10, 11], [])
  | 66, 4 => some ([2, 3, 8, 9, 10], [2, 3])
  | 66, 7 => some ([2, 3, 8, 9, 10, 14, 15], [2, 3, 8, 9, 10])
  | 67, 4 => some ([2, 3, 5, 16, 17, 18], [2, 3, 5])
  | 67, 11 => some ([2, 5, 8, 9], [5])
  | 67, 14 => some ([2, 5, 8, 9, 31, 32, 33], [2, 5, 8, 9])
  | 68, 9 => some ([6, 7, 20, 21, 22], [4])
  | 69, 4 => some ([0, 1, 2, 3, 5, 6, 7], [0, 1, 2, 3, 5, 6, 7])
  | 69, 100004 => some ([0, 1, 2, 3, 5, 6, 7], [])
  | 71, 4 => some ([2, 3, 4, 11, 12], [2, 3, 4])
  | 72, 3 => some ([3, 4, 5, 6, 11, 12], [3, 6])
  | 73, 6 => some ([0, 2, 5, 9, 14], [13])
  | 75, 5 => some ([2, 4, 5, 6, 16, 17, 18], [2, 4, 5, 6])
  | 75, 11 => some ([4, 5, 6, 38, 39, 40], [4, 5])
  | _, _ => none
def upH (f d : Nat) : Up :=
  match f, d with
  | 12, 37 => .scopes 1
  | 15, 31 => .box 11
  | 31, 24 => .scopes 1
  | 34, 78 => .scopes 1
  | 35, 41 => .scopes 1
  | 49, 14 => .box 0
  | 73, 37 => .scopes 0
  | 73, 40 => .scopes 0
  | 75, 34 => .box 5
  | 75, 68 => .box 5
  | _, _ => .scopes 0
def keepH (f : Nat) : Bool :=
  match f with
  | 39 => true
  | 67 => true
  | 6 => true
  | _ => false
def frzH (f : Nat) : Bool :=
  match f with
  | 15 => true
  | 11 => true
  | 9 => true
  | 12 => true
  | 14 => true
  | 40 => true
  | 21 => true
  | 31 => true
  | 68 => true
  | _ => false
def clnH (f : Nat) : Bool :=
  match f with
  | 50 => true
  | 76 => true
  | _ => false
def ownH (f d : Nat) : Bool :=
  match f, d with
  | 6, 13 => true
  | 6, 16 => true
  | _, _ => false
def extH : Nat → Option (List GV → Heap → Option (GV × Heap))
  | 50 => some extItoa
  | 76 => some (extCopy 104)
  | _ => none

def eqsH (t : Nat) : Option (List SK) :=
  match t with
  | 30 => some [.int .i64, .int .i64]
  | _ => none
def typH (t : Nat) : Bool :=
  match t with
  | 5 => true
  | 104 => true
  | _ => false
noncomputable def KH : Ctx := { P := Tryd.prog, keep := keepH, ann := annH, up := upH, own := ownH, frz := frzH, bor := fun _ => false, car := fun _ _ => false, cln := clnH, lift := fun _ _ => none, row := fun _ _ => none, eqs := eqsH, typ := typH, ext := extH }
theorem clnH_no {f : Nat} (h1 : clnH f = true) (h2 : extH f = none) : False := by
  unfold clnH at h1
  split at h1
  all_goals first | (cases h1; done) | (cases h2; done)
theorem extH_ok {f : Nat} {e : List GV → Heap → Option (GV × Heap)} (h : extH f = some e) : ExtOk Tryd.prog f e := by
  unfold extH at h
  split at h
  all_goals cases h
  · exact itoa_ext (ρ := Tryd.laysM171_ren) Tryd.laysM171 (by kernel_rfl)
  · exact copy_ext (ρ := Tryd.lays240_ren) Tryd.lays240 Tryd.builderX
theorem eqsH_ok (t : Nat) (ks : List SK) (h : eqsH t = some ks) : EqOk Tryd.prog t ks := by
  unfold eqsH at h
  split at h
  all_goals first | (cases h; exact eqOk_of (P := Tryd.prog) 5 (by omega) (by kernel_rfl) (by kernel_rfl) (by kernel_rfl)) | cases h
theorem ctxH : CtxOk KH where
  cln := fun f h1 h2 => (clnH_no h1 h2).elim
  eqs := eqsH_ok
  mixed := by kernel_rfl
  ext := fun f e _ h => extH_ok h
end Go.Gh
