/- The program's search by sets: the inner loops. -/
import Derived.Test.YthcpepcmnmlmeaaSb
namespace Go.Gh
open Go.Proofs
set_option linter.unusedSimpArgs false
set_option linter.unusedVariables false
set_option linter.unnecessarySimpa false
set_option maxRecDepth 100000
set_option maxHeartbeats 4000000
end Go.Gh


/- The program's search by sets: its rounds; what lies there at first. -/
namespace Go.Gh
open Go.Proofs
set_option linter.unusedSimpArgs false
set_option linter.unusedVariables false
set_option linter.unnecessarySimpa false
set_option maxRecDepth 100000
set_option maxHeartbeats 4000000
end Go.Gh


/- The program's search by sets: the whole. -/
namespace Go.Gh
open Go.Proofs
set_option linter.unusedSimpArgs false
set_option linter.unusedVariables false
set_option linter.unnecessarySimpa false
set_option maxRecDepth 100000
set_option maxHeartbeats 4000000
end Go.Gh


/- Both searches find the same number. -/
namespace Go.Gh
open Go.Proofs
set_option linter.unusedSimpArgs false
set_option linter.unusedVariables false
set_option linter.unnecessarySimpa false
set_option maxRecDepth 100000
section
variable {com : Nat → Nat} {rec : List Bool → Nat} {T : List Bool}
end
def tm (B m : Nat) : List Bool := (List.range B).map fun y => m.testBit y
section
variable {com : Nat → Nat → Nat} {A B : Nat}
end
section
variable {cm : Nat → Nat} {B : Nat}
end
section
variable {com : Nat → Nat → Nat} {A B : Nat}
end
end Go.Gh


/- How many packets have to be moved, by the program. -/
namespace Go.Gh
open Go.Proofs
set_option linter.unusedSimpArgs false
set_option linter.unusedVariables false
set_option linter.unnecessarySimpa false
set_option maxRecDepth 100000
set_option maxHeartbeats 4000000
variable {c : Nat} {H : Heap}
end Go.Gh
