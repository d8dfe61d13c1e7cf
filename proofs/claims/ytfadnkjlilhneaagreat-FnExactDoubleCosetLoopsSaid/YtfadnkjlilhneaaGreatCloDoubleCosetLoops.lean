/- A closed fact of the row of FnExactDoubleCosetLoops, apart: the kernel wants much memory for it. -/
import Derived.Test.YtfadnkjlilhneaaGreatP01
import Derived.Test.YtfadnkjlilhneaaGreatRows
namespace Go.Proofs.YtfadnkjlilhneaaGreat.fnExactDoubleCosetLoops
set_option maxRecDepth 20000
set_option linter.unusedVariables false
set_option linter.unusedSimpArgs false
open Go.ChangeShapes Go.WideShapes Go.ChangeAt Go.RowKit
set_option maxRecDepth 100000
theorem closed:joinedFacts Tryz.pinned.checked.prog 4 Tryz.f4 Rows.fnExactDoubleCosetLoopsSpec Rows.fnExactDoubleCosetLoopsRow=true:=by kernel_rfl
end Go.Proofs.YtfadnkjlilhneaaGreat.fnExactDoubleCosetLoops
