/- What the seat's claim needs. -/
import Derived.Test.YtkcmcjohoockcaaGc8k
import Derived.Test.YtkcmcjohoockcaaGc8f
import Derived.Test.YtkcmcjohoockcaaRows
namespace Go.Proofs.Ytkcmcjohoockcaa
open Go.Gh Go.RowKit
set_option maxRecDepth 100000
theorem own : ownKnob Try.prog.godebug = none := by kernel_rfl
theorem laidOut : laidOutB Try.prog = true := by kernel_rfl
theorem A8 {P : Program} {n : Nat} {pvs : List PV} (h : zA P n [] pvs) : pvs = [] := by
  cases pvs with
  | nil => rfl
  | cons p ps => exact h.elim
end Go.Proofs.Ytkcmcjohoockcaa
