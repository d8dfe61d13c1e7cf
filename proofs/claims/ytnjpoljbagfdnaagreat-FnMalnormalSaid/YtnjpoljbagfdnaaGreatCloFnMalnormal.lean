/- A closed fact of the row of FnMalnormal, apart: the kernel wants much memory for it. -/
import Derived.ChangeAt
import Derived.WideShapes
import Derived.JoinedOf
import Derived.Test.YtnjpoljbagfdnaaGreatRows
namespace Go.Proofs.YtnjpoljbagfdnaaGreat.fnMalnormal
set_option maxRecDepth 20000
set_option linter.unusedVariables false
set_option linter.unusedSimpArgs false
open Go.ChangeShapes Go.WideShapes Go.ChangeAt
set_option maxRecDepth 100000
theorem closed:joinedFacts Tryz.pinned.checked.prog 4 Tryz.f4 Rows.fnMalnormalSpec Rows.fnMalnormalRow=true:=by kernel_rfl
end Go.Proofs.YtnjpoljbagfdnaaGreat.fnMalnormal
