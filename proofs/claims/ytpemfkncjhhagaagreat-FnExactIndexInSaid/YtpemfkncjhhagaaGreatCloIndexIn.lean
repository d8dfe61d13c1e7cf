/- A closed fact of the row of FnExactIndexIn, apart: the kernel wants much memory for it. -/
import Derived.Test.YtpemfkncjhhagaaGreatFrame
import Derived.Test.YtpemfkncjhhagaaGreatRows
namespace Go.Proofs.YtpemfkncjhhagaaGreat.fnExactIndexIn
set_option maxRecDepth 20000
set_option linter.unusedVariables false
set_option linter.unusedSimpArgs false
open Go.ChangeShapes Go.WideShapes Go.ChangeAt Go.RowKit
set_option maxRecDepth 100000
theorem closed : joinedFacts Tryz.pinned.checked.prog 7 Tryz.f7 Rows.fnExactIndexInSpec Rows.fnExactIndexInRow = true := by kernel_rfl
end Go.Proofs.YtpemfkncjhhagaaGreat.fnExactIndexIn
