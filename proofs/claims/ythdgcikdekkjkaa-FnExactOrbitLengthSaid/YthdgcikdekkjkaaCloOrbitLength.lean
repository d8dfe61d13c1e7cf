/- A closed fact of the row of FnExactOrbitLength, apart: the kernel wants much memory for it. -/
import Derived.Test.YthdgcikdekkjkaaFrame
import Derived.Test.YthdgcikdekkjkaaRows
namespace Go.Proofs.Ythdgcikdekkjkaa.fnExactOrbitLength
set_option maxRecDepth 20000
set_option linter.unusedVariables false
set_option linter.unusedSimpArgs false
open Go.ChangeShapes Go.WideShapes Go.ChangeAt Go.RowKit
set_option maxRecDepth 100000
theorem closed : joinedFacts Try.pinned.checked.prog 15 Try.f15 Rows.fnExactOrbitLengthSpec Rows.fnExactOrbitLengthRow = true := by kernel_rfl
end Go.Proofs.Ythdgcikdekkjkaa.fnExactOrbitLength
