/- A closed fact of the row of FnExactReduceCyclic, apart: the kernel wants much memory for it. -/
import Derived.Test.YthdgcikdekkjkaaFrame
import Derived.Test.YthdgcikdekkjkaaRows
namespace Go.Proofs.Ythdgcikdekkjkaa.fnExactReduceCyclic
set_option maxRecDepth 20000
set_option linter.unusedVariables false
set_option linter.unusedSimpArgs false
open Go.ChangeShapes Go.WideShapes Go.ChangeAt Go.RowKit
set_option maxRecDepth 100000
theorem closed : joinedFacts Try.pinned.checked.prog 16 Try.f16 Rows.fnExactReduceCyclicSpec Rows.fnExactReduceCyclicRow = true := by kernel_rfl
end Go.Proofs.Ythdgcikdekkjkaa.fnExactReduceCyclic
