/- What is known of package variables: the seat's table. -/
import Derived.WalkKit
namespace Go.Gh

/-- What is known of one cell. -/
inductive GQ where
  | int (k : IntKind) (n : Int)
  | str (s : List UInt8)
  | anyInt (k : IntKind)
  | anyIface

/-- Package variables of which it is known what they hold: the powers of ten; MaxLen, ErrSyntax, ErrRange in part. -/
def globT : List (Nat × List GQ) := [(1, (List.range 20).map fun i => .int .u64 (10 ^ i)), (2, [.anyInt .i64]), (3, [.anyIface]), (4, [.anyIface])]

end Go.Gh
