/- A closed fact of the row of FnExactIsIndependent, apart: the kernel wants much memory for it. -/
import Derived.Test.YtodkandjcodnjaaFrame
import Derived.Test.YtodkandjcodnjaaRows
namespace Go.Proofs.Ytodkandjcodnjaa.fnExactIsIndependent
set_option maxRecDepth 20000
set_option linter.unusedVariables false
set_option linter.unusedSimpArgs false
open Go.ChangeShapes Go.WideShapes Go.ChangeAt Go.RowKit
set_option maxRecDepth 100000
theorem closed : joinedFacts Try.pinned.checked.prog 4 Try.f4 Rows.fnExactIsIndependentSpec Rows.fnExactIsIndependentRow = true := by kernel_rfl
end Go.Proofs.Ytodkandjcodnjaa.fnExactIsIndependent
