/- A closed fact of the row of FnExactAreAutomorphic, apart: the kernel wants much memory for it. -/
import Derived.Test.YtnmkbkpegkchpaaFrame
import Derived.Test.YtnmkbkpegkchpaaRows
namespace Go.Proofs.Ytnmkbkpegkchpaa.fnExactAreAutomorphic
set_option maxRecDepth 20000
set_option linter.unusedVariables false
set_option linter.unusedSimpArgs false
open Go.ChangeShapes Go.WideShapes Go.ChangeAt Go.RowKit
set_option maxRecDepth 100000
theorem closed : joinedFacts Try.pinned.checked.prog 5 Try.f5 Rows.fnExactAreAutomorphicSpec Rows.fnExactAreAutomorphicRow = true := by kernel_rfl
end Go.Proofs.Ytnmkbkpegkchpaa.fnExactAreAutomorphic
