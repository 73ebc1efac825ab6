/- Calls of closed arguments, run by the kernel. -/
import Derived.Test.YtgmohiojddnfgaaDoorKh
namespace Go.Gh
open Go.Proofs
set_option maxRecDepth 100000

def tl40_2 : List PV × PV := ([(.agg [(.int .i64 (10)), (.int .i64 (200)), (.int .i64 (200)), (.int .i64 (200)), (.int .i64 (100)), (.int .i64 (100000)), (.int .i64 (600)), (.int .i64 (1000))]), (.agg [(.slice [[(.int .i64 (1)), (.int .i64 (1)), (.int .i64 (3)), (.int .i64 (4)), (.int .i64 (10)), (.int .i64 (12)), (.bool true)], [(.int .i64 (2)), (.int .i64 (3)), (.int .i64 (5)), (.int .i64 (5)), (.int .i64 (20)), (.int .i64 (20)), (.bool false)], [(.int .i64 (4)), (.int .i64 (6)), (.int .i64 (2)), (.int .i64 (2)), (.int .i64 (5)), (.int .i64 (5)), (.bool false)]]), (.slice [[(.int .i64 (0)), (.int .i64 (1))], [(.int .i64 (1)), (.int .i64 (2))]])]), (.slice []), (.int .i64 (4)), (.int .i64 (6))], (.tuple [(.slice [[(.int .i64 (0))], [(.int .i64 (1))]]), (.int .i64 (0))]))
theorem tl40_2_ok : gcall KH (gexec KH 3000) 40 (tl40_2.1.map .pure) 0 [[]] = some (.pure tl40_2.2, [[]]) := by kernel_rfl
end Go.Gh
