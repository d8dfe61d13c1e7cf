/- A closed fact of the row of FnExactShortenCyclic, apart: the kernel wants much memory for it. -/
import Derived.Test.YthdgcikdekkjkaaFrame
import Derived.Test.YthdgcikdekkjkaaRows
namespace Go.Proofs.Ythdgcikdekkjkaa.fnExactShortenCyclic
set_option maxRecDepth 20000
set_option linter.unusedVariables false
set_option linter.unusedSimpArgs false
open Go.ChangeShapes Go.WideShapes Go.ChangeAt Go.RowKit
set_option maxRecDepth 100000
theorem closed : joinedFacts Try.pinned.checked.prog 14 Try.f14 Rows.fnExactShortenCyclicSpec Rows.fnExactShortenCyclicRow = true := by kernel_rfl
end Go.Proofs.Ythdgcikdekkjkaa.fnExactShortenCyclic
