/- A closed fact of the row of FnWhitehead, apart: the kernel wants much memory for it. -/
import Derived.Test.YtlgcflpaekbopaaGreatW07
import Derived.Test.YtlgcflpaekbopaaGreatRows
namespace Go.Proofs.YtlgcflpaekbopaaGreat.fnWhitehead
set_option maxRecDepth 20000
set_option linter.unusedVariables false
set_option linter.unusedSimpArgs false
open Go.ChangeShapes Go.WideShapes Go.ChangeAt Go.RowKit
set_option maxRecDepth 100000
theorem closed:joinedFacts Tryz.pinned.checked.prog 3 Tryz.f3 Rows.fnWhiteheadSpec Rows.fnWhiteheadRow=true:=by kernel_rfl
end Go.Proofs.YtlgcflpaekbopaaGreat.fnWhitehead
