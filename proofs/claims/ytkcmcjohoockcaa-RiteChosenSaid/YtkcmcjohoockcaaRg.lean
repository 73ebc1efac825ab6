/- The program's stages: what is held, neighbours, states. -/
import Derived.Test.YtkcmcjohoockcaaRf
import Derived.Test.YtkcmcjohoockcaaPa
namespace Go.Gh
open Go.Proofs
set_option linter.unusedSimpArgs false
set_option linter.unusedVariables false
set_option linter.unnecessarySimpa false
set_option maxRecDepth 100000
set_option maxHeartbeats 4000000
variable {c : Nat} {H : Heap}
def bandn (a b : Int) : Int := IntKind.i64.wrap (BitVec.ofInt 64 a &&& ~~~(BitVec.ofInt 64 b)).toNat
@[simp] theorem gbin_andNot {K : Ctx} {t : TypeId} {a b : Int} : gbin K .andNot t (.pure (.int .i64 a)) (.pure (.int .i64 b)) = some (.int .i64 (bandn a b)) := by
  simp only [gbin, gint, bandn]
  rfl
end Go.Gh


/- The program's stages: what is possible. -/
namespace Go.Gh
open Go.Proofs
set_option linter.unusedSimpArgs false
set_option linter.unusedVariables false
set_option linter.unnecessarySimpa false
set_option maxRecDepth 100000
set_option maxHeartbeats 4000000
variable {c : Nat} {H : Heap}
/-- A room that is valid. -/
structure WB (r : Rite) : Prop where
  w1 : 1 ≤ r.wide
  w6 : r.wide ≤ 1000
  n6 : r.wide * r.deep < 1000000
  pl : r.people.length ≤ 1000000
  tl : r.things.length ≤ 1000000
section
variable {r : Rite} {s : Scene} {w : Nat} {a : RAct}
end
end Go.Gh


/- The program's stages: what is touched; may. -/
namespace Go.Gh
open Go.Proofs
set_option linter.unusedSimpArgs false
set_option linter.unusedVariables false
set_option linter.unnecessarySimpa false
set_option maxRecDepth 100000
set_option maxHeartbeats 4000000
variable {c : Nat} {H : Heap}
section
variable {r : Rite} {s : Scene} {w : Nat} {a : RAct}
end
end Go.Gh


/- The program's stages: what acts do. -/
namespace Go.Gh
open Go.Proofs
set_option linter.unusedSimpArgs false
set_option linter.unusedVariables false
set_option linter.unnecessarySimpa false
set_option maxRecDepth 100000
set_option maxHeartbeats 4000000
variable {c : Nat} {H : Heap}
section
variable {ts : List Spot} {t : Nat} {b : Int}
end
section
variable {r : Rite} {s : Scene} {w : Nat} {a : RAct} {n1 n2 n3 : Nm} {v1 v2 v3 : Nat}
end
end Go.Gh
