/- What an answer is worth, by the reference. -/
import Derived.Test.YthcpepcmnmlmeaaSd
namespace Go.Gh
open Go.Proofs
set_option linter.unusedSimpArgs false
set_option linter.unusedVariables false
set_option linter.unnecessarySimpa false
set_option maxRecDepth 100000
set_option maxHeartbeats 4000000
end Go.Gh


/- What an answer is worth, by the reference: the whole; marks with errors. -/
namespace Go.Gh
open Go.Proofs
set_option linter.unusedSimpArgs false
set_option linter.unusedVariables false
set_option linter.unnecessarySimpa false
set_option maxRecDepth 100000
set_option maxHeartbeats 4000000
variable {c : Nat} {H : Heap}
end Go.Gh


/- Values with slices in blocks, told as pure ones. -/
namespace Go.Gh
open Go.Proofs
set_option linter.unusedSimpArgs false
set_option linter.unusedVariables false
set_option maxRecDepth 100000
set_option maxHeartbeats 4000000
variable {c : Nat} {H : Heap}
/-- A cell reads as a pure value. -/
def rdC (H : Heap) : GV → PV → Prop
  | .pure p, q => p = q
  | .nils, q => q = .slice []
  | .hdr nm es top lo len, q => ∃ rows v ro, H.get nm = some (.arr es rows v ro) ∧ v ≤ top ∧ rows.length = top ∧ lo = 0 ∧ len = top ∧ q = .slice rows
  | _, _ => False
def rdL (H : Heap) : List GV → List PV → Prop
  | [], [] => True
  | g :: l, q :: m => rdC H g q ∧ rdL H l m
  | _, _ => False
def rdG (H : Heap) : GV → PV → Prop
  | .agg l, .agg m => rdL H l m
  | .pure p, q => p = q
  | _, _ => False
@[simp] theorem rdC_pure {p q : PV} : rdC H (.pure p) q = (p = q) := .trans rfl rfl
@[simp] theorem rdC_nils {q : PV} : rdC H .nils q = (q = .slice []) := .trans rfl rfl
@[simp] theorem rdC_hdr {nm : Nm} {es top lo len : Nat} {q : PV} : rdC H (.hdr nm es top lo len) q = ∃ rows v ro, H.get nm = some (.arr es rows v ro) ∧ v ≤ top ∧ rows.length = top ∧ lo = 0 ∧ len = top ∧ q = .slice rows := .trans rfl rfl
@[simp] theorem rdL_nil : rdL H [] [] = True := .trans rfl rfl
@[simp] theorem rdL_cons {g : GV} {q : PV} {l : List GV} {m : List PV} : rdL H (g :: l) (q :: m) = (rdC H g q ∧ rdL H l m) := .trans rfl rfl
@[simp] theorem rdG_agg {l : List GV} {m : List PV} : rdG H (.agg l) (.agg m) = rdL H l m := .trans rfl rfl
@[simp] theorem rdG_pure {p q : PV} : rdG H (.pure p) q = (p = q) := .trans rfl rfl
end Go.Gh


/- Marks, with their errors. -/
namespace Go.Gh
open Go.Proofs
set_option linter.unusedSimpArgs false
set_option linter.unusedVariables false
set_option linter.unnecessarySimpa false
set_option maxRecDepth 100000
set_option maxHeartbeats 4000000
variable {c : Nat} {H : Heap}
theorem awake_run (fr : Fr) (c : Nat) : gcall KC (gexec KC 4000) 23 [] c [fr, []] = some (.pure (.bool true), [fr, []]) := by
  kernel_rfl
theorem awake_ok (fr : Fr) (c : Nat) : gcall KC (geval KC) 23 [] c [fr, []] = some (.pure (.bool true), [fr, []]) := gcall_geval (awake_run fr c)
end Go.Gh
