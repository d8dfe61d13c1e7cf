/- A closed fact of the row of FnOrbits, apart: the kernel wants much memory for it. -/
import Derived.Test.YtlgcflpaekbopaaGreatV10
import Derived.Test.YtlgcflpaekbopaaGreatRows
namespace Go.Proofs.YtlgcflpaekbopaaGreat.fnOrbits
set_option maxRecDepth 20000
set_option linter.unusedVariables false
set_option linter.unusedSimpArgs false
open Go.ChangeShapes Go.WideShapes Go.ChangeAt Go.RowKit
set_option maxRecDepth 100000
theorem closed:joinedFacts Tryz.pinned.checked.prog 4 Tryz.f4 Rows.fnOrbitsSpec Rows.fnOrbitsRow=true:=by kernel_rfl
end Go.Proofs.YtlgcflpaekbopaaGreat.fnOrbits
