/- Calls of closed arguments, run by the kernel. -/
import Derived.Test.YtgmohiojddnfgaaDoorKh
namespace Go.Gh
open Go.Proofs
set_option maxRecDepth 100000

def tl25_0 : List PV × PV := ([], (.bool true))
theorem tl25_0_ok : gcall KS (gexec KS 3000) 25 (tl25_0.1.map .pure) 0 [[]] = some (.pure tl25_0.2, [[]]) := by kernel_rfl
def tl27_0 : List PV × PV := ([(.agg [(.int .i64 (1)), (.int .i64 (2)), (.int .i64 (10)), (.int .i64 (5)), (.int .i64 (1)), (.slice [[(.int .i64 (1))], [(.int .i64 (3))], [(.int .i64 (6))]])]), (.slice [[(.int .i64 (0))], [(.int .i64 (1))], [(.int .i64 (0))], [(.int .i64 (2))]]), (.slice [[(.int .i64 (0))], [(.int .i64 (0))], [(.int .i64 (0))], [(.int .i64 (1))]])], (.tuple [(.agg [(.int .i64 (13)), (.int .i64 (2)), (.int .i64 (2)), (.int .i64 (4)), (.int .i64 (1)), (.int .i64 (0)), (.int .i64 (1)), (.int .i64 (2))]), (.int .i64 (0))]))
theorem tl27_0_ok : gcall KS (gexec KS 3000) 27 (tl27_0.1.map .pure) 0 [[]] = some (.pure tl27_0.2, [[]]) := by kernel_rfl
def tl27_1 : List PV × PV := ([(.agg [(.int .i64 (1)), (.int .i64 (2)), (.int .i64 (10)), (.int .i64 (5)), (.int .i64 (1)), (.slice [[(.int .i64 (1))], [(.int .i64 (3))], [(.int .i64 (6))]])]), (.slice [[(.int .i64 (0))], [(.int .i64 (1))], [(.int .i64 (0))], [(.int .i64 (2))]]), (.slice [[(.int .i64 (0))], [(.int .i64 (-1))], [(.int .i64 (0))], [(.int .i64 (-1))]])], (.tuple [(.agg [(.int .i64 (4)), (.int .i64 (2)), (.int .i64 (0)), (.int .i64 (1)), (.int .i64 (0)), (.int .i64 (0)), (.int .i64 (1)), (.int .i64 (0))]), (.int .i64 (0))]))
theorem tl27_1_ok : gcall KS (gexec KS 3000) 27 (tl27_1.1.map .pure) 0 [[]] = some (.pure tl27_1.2, [[]]) := by kernel_rfl
end Go.Gh
