/- A closed fact of the row of FnOvergroups, apart: the kernel wants much memory for it. -/
import Derived.Test.YtnjpoljbagfdnaaGreatV08
import Derived.Test.YtnjpoljbagfdnaaGreatRows
namespace Go.Proofs.YtnjpoljbagfdnaaGreat.fnOvergroups
set_option maxRecDepth 20000
set_option linter.unusedVariables false
set_option linter.unusedSimpArgs false
open Go.ChangeShapes Go.WideShapes Go.ChangeAt Go.RowKit
set_option maxRecDepth 100000
theorem closed:joinedFacts Tryz.pinned.checked.prog 5 Tryz.f5 Rows.fnOvergroupsSpec Rows.fnOvergroupsRow=true:=by kernel_rfl
end Go.Proofs.YtnjpoljbagfdnaaGreat.fnOvergroups
