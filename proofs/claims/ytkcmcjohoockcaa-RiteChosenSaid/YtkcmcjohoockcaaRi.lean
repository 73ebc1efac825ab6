/- The program's runs. -/
import Derived.Test.YtkcmcjohoockcaaRh
namespace Go.Gh
open Go.Proofs
set_option linter.unusedSimpArgs false
set_option linter.unusedVariables false
set_option linter.unnecessarySimpa false
set_option maxRecDepth 100000
set_option maxHeartbeats 4000000
variable {c : Nat} {H : Heap}
end Go.Gh


/- The program's runs, the whole; its scenes. -/
namespace Go.Gh
open Go.Proofs
set_option linter.unusedSimpArgs false
set_option linter.unusedVariables false
set_option linter.unnecessarySimpa false
set_option maxRecDepth 100000
set_option maxHeartbeats 4000000
variable {c : Nat} {H : Heap}
end Go.Gh


/- The program's Run and Scenes. -/
namespace Go.Gh
open Go.Proofs
set_option linter.unusedSimpArgs false
set_option linter.unusedVariables false
set_option linter.unnecessarySimpa false
set_option maxRecDepth 100000
set_option maxHeartbeats 4000000
variable {c : Nat} {H : Heap}
end Go.Gh


/- The program's Run and Scenes, the whole. -/
namespace Go.Gh
open Go.Proofs
set_option linter.unusedSimpArgs false
set_option linter.unusedVariables false
set_option linter.unnecessarySimpa false
set_option maxRecDepth 100000
set_option maxHeartbeats 4000000
variable {c : Nat} {H : Heap}
/-- A rite that may be run. -/
structure Runs (r : Rite) : Prop where
  w : WB r
  snd : Snd r (firstV r)
  p0 : r.people ≠ []
  t0 : r.things ≠ []
  al : r.acts.length ≤ 1000000
  ab : ∀ a ∈ r.acts, AB r a.who.toNat a
  sh : Short r
  ck : checkF r = 0
end Go.Gh
