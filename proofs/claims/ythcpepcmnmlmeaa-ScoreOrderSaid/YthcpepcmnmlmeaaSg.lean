/- Worth; which score is before which, by the reference. -/
import Derived.Test.YthcpepcmnmlmeaaSf
namespace Go.Gh
open Go.Proofs
set_option linter.unusedSimpArgs false
set_option linter.unusedVariables false
set_option linter.unnecessarySimpa false
set_option maxRecDepth 100000
set_option maxHeartbeats 4000000
variable {c : Nat} {H : Heap}
def x0 : Score := ⟨0, 0, 0, 0, 0, 0, 0, 0⟩
end Go.Gh


/- The keys of the order, by the program. -/
namespace Go.Gh
open Go.Proofs
set_option linter.unusedSimpArgs false
set_option linter.unusedVariables false
set_option linter.unnecessarySimpa false
set_option maxRecDepth 100000
set_option maxHeartbeats 4000000
variable {c : Nat} {H : Heap}
def keyV (f : Nat) : GV := .func 142 [] [.pptr [.fn f]]
@[simp] theorem cellsO_key {f : Nat} : cellsO (keyV f) = some [keyV f] := .trans rfl rfl
@[simp] theorem clean1_key {l0 : Nat} {f : Nat} : clean1 H l0 (keyV f) = keyV f := .trans rfl rfl
@[simp] theorem canon1_key {f : Nat} : canon1 (keyV f) = keyV f := .trans rfl rfl
@[simp] theorem allPure_key {f : Nat} {l : List GV} : allPure (keyV f :: l) = none := .trans rfl rfl
@[simp] theorem lowerCell_key {l0 : Nat} {f : Nat} : lowerCell H l0 (keyV f) = (keyV f, H) := .trans rfl rfl
@[simp] theorem canon_pptr {cs : List PV} : canon (.pptr cs) = .pptr cs := .trans rfl rfl
end Go.Gh


/- Which score is before which, by the program. -/
namespace Go.Gh
open Go.Proofs
set_option linter.unusedSimpArgs false
set_option linter.unusedVariables false
set_option linter.unnecessarySimpa false
set_option maxRecDepth 100000
set_option maxHeartbeats 4000000
variable {c : Nat} {H : Heap}
end Go.Gh


/- Which score is before which: both calls. -/
namespace Go.Gh
open Go.Proofs
set_option linter.unusedSimpArgs false
set_option linter.unusedVariables false
set_option linter.unnecessarySimpa false
set_option maxRecDepth 100000
set_option maxHeartbeats 4000000
variable {c : Nat} {H : Heap}
end Go.Gh


/- Rank, by the program: its loops. -/
namespace Go.Gh
open Go.Proofs
set_option linter.unusedSimpArgs false
set_option linter.unusedVariables false
set_option linter.unnecessarySimpa false
set_option maxRecDepth 100000
set_option maxHeartbeats 4000000
variable {c : Nat} {H : Heap}
def arow (l : List Int) : List PV := [.slice (l.map irow)]
end Go.Gh


/- Rank, by the program: the places. -/
namespace Go.Gh
open Go.Proofs
set_option linter.unusedSimpArgs false
set_option linter.unusedVariables false
set_option linter.unnecessarySimpa false
set_option maxRecDepth 100000
set_option maxHeartbeats 4000000
variable {c : Nat} {H : Heap}
end Go.Gh


/- Rank, by the program: the whole. -/
namespace Go.Gh
open Go.Proofs
set_option linter.unusedSimpArgs false
set_option linter.unusedVariables false
set_option linter.unnecessarySimpa false
set_option maxRecDepth 100000
set_option maxHeartbeats 4000000
variable {c : Nat} {H : Heap}
theorem clean2_apS {H : Heap} {l0 : Nat} {nm : Nm} {es : Nat} {rows : List (List PV)} : clean2 H l0 (apS nm es rows) = clean1 H l0 (apS nm es rows) := by
  unfold apS
  split <;> rfl
end Go.Gh


/- Rank, by the reference. -/
namespace Go.Gh
open Go.Proofs
set_option linter.unusedSimpArgs false
set_option linter.unusedVariables false
set_option linter.unnecessarySimpa false
set_option maxRecDepth 100000
set_option maxHeartbeats 4000000
variable {c : Nat} {H : Heap}
end Go.Gh


/- What the laws on ranks need: much, EqScores, Rank on answers in a block. -/
namespace Go.Gh
open Go.Proofs
set_option linter.unusedSimpArgs false
set_option linter.unusedVariables false
set_option linter.unnecessarySimpa false
set_option maxRecDepth 100000
set_option maxHeartbeats 4000000
variable {c : Nat} {H : Heap}
end Go.Gh
