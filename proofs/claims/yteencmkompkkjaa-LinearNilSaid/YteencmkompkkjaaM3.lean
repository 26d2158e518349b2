/- gemel, the law LinearNil: one call on plain cells that comes up in its run, run by the evaluator in the kernel. -/
import Derived.Test.YteencmkompkkjaaProg
import Derived.Test.YteencmkompkkjaaClE
namespace Go.Proofs.Yteencmkompkkjaa
open Go.Cl
def linearNil_e3 : ME := ⟨6, rl [(.int .u64 1, 1), (.int .i64 0, 1), (.int .u64 0, 1), (.int .i64 0, 1), (.int .i64 2, 1), (.int .i64 0, 1), (.int .u8 5, 1), (.int .u8 0, 255), (.int .i64 0, 2), (.int .u64 0, 2), (.int .i64 0, 3), (.bool false, 1), (.int .i64 0, 1), (.int .i64 1, 1), (.int .u64 0, 1), (.int .i64 0, 2), (.int .u8 0, 256), (.int .u64 0, 17), (.int .i64 0, 2), (.nils, 1), (.int .u64 3, 1), (.int .i64 0, 1), (.int .u64 0, 1), (.int .i64 0, 1), (.int .i64 1, 1), (.int .i64 0, 1), (.int .u8 0, 256), (.int .i64 0, 2), (.int .u64 0, 2), (.int .i64 0, 3), (.bool true, 1), (.int .i64 0, 1), (.int .i64 3, 1), (.int .u64 0, 1), (.int .i64 0, 2), (.int .u8 0, 256), (.int .u64 0, 17), (.int .i64 0, 2), (.nils, 1)], [.sl 0 0 2 (.exact 2), .int .i64 4], .int .i64 0⟩
set_option maxRecDepth 1000000 in
theorem linearNil_ok3 : okM Try.prog noSums 100000 linearNil_e3 = true := by kernel_rfl
end Go.Proofs.Yteencmkompkkjaa
