/- What is known of package variables: the seat's table. -/
import Derived.WalkKit
namespace Go.Gh

/-- What is known of one cell. -/
inductive GQ where
  | int (k : IntKind) (n : Int)
  | str (s : List UInt8)
  | anyInt (k : IntKind)
  | anyIface

/-- Package variables of which it is known what they hold: the words of states, the powers of ten. -/
def globT : List (Nat × List GQ) :=
  [(0, [.str [], .str [111, 112, 101, 110], .str [112, 97, 117, 115, 101, 100], .str [99, 108, 111, 115, 101, 100], .str [115, 104, 111, 119, 110]]),
   (1, (List.range 20).map fun i => .int .u64 (10 ^ i))]

end Go.Gh
