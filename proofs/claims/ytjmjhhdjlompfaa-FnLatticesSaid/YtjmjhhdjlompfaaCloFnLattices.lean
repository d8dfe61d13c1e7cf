/- A closed fact of the row of FnLattices, apart: the kernel wants much memory for it. -/
import Derived.Test.YtjmjhhdjlompfaaFrame
import Derived.Test.YtjmjhhdjlompfaaRows
namespace Go.Proofs.Ytjmjhhdjlompfaa.fnLattices
set_option maxRecDepth 20000
set_option linter.unusedVariables false
set_option linter.unusedSimpArgs false
open Go.ChangeShapes Go.WideShapes Go.ChangeAt Go.RowKit
set_option maxRecDepth 100000
theorem closed : joinedFacts Try.pinned.checked.prog 3 Try.f3 Rows.fnLatticesSpec Rows.fnLatticesRow = true := by kernel_rfl
end Go.Proofs.Ytjmjhhdjlompfaa.fnLattices
