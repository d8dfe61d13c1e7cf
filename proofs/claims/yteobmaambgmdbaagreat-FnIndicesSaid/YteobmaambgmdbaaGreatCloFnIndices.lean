/- A closed fact of the row of FnIndices, apart: the kernel wants much memory for it. -/
import Derived.Test.YteobmaambgmdbaaGreatP08
import Derived.Test.YteobmaambgmdbaaGreatRows
namespace Go.Proofs.YteobmaambgmdbaaGreat.fnIndices
set_option maxRecDepth 20000
set_option linter.unusedVariables false
set_option linter.unusedSimpArgs false
open Go.ChangeShapes Go.WideShapes Go.ChangeAt Go.RowKit
set_option maxRecDepth 100000
theorem closed:joinedFacts Tryz.pinned.checked.prog 4 Tryz.f4 Rows.fnIndicesSpec Rows.fnIndicesRow=true:=by kernel_rfl
end Go.Proofs.YteobmaambgmdbaaGreat.fnIndices
