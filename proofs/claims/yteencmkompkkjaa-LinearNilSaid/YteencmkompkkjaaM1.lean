/- gemel, the law LinearNil: one call on plain cells that comes up in its run, run by the evaluator in the kernel. -/
import Derived.Test.YteencmkompkkjaaProg
import Derived.Test.YteencmkompkkjaaClE
namespace Go.Proofs.Yteencmkompkkjaa
open Go.Cl
def linearNil_e1 : ME := ⟨6, [], [.nils, .int .i64 64], .int .i64 0⟩
set_option maxRecDepth 1000000 in
theorem linearNil_ok1 : okM Try.prog noSums 100000 linearNil_e1 = true := by kernel_rfl
end Go.Proofs.Yteencmkompkkjaa
