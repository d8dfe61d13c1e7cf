/- A closed fact of the row of FnExactAreCommensurable, apart: the kernel wants much memory for it. -/
import Derived.Test.YtfadnkjlilhneaaGreatFrame
import Derived.Test.YtfadnkjlilhneaaGreatRows
namespace Go.Proofs.YtfadnkjlilhneaaGreat.fnExactAreCommensurable
set_option maxRecDepth 20000
set_option linter.unusedVariables false
set_option linter.unusedSimpArgs false
open Go.ChangeShapes Go.WideShapes Go.ChangeAt Go.RowKit
set_option maxRecDepth 100000
theorem closed : joinedFacts Tryz.pinned.checked.prog 6 Tryz.f6 Rows.fnExactAreCommensurableSpec Rows.fnExactAreCommensurableRow = true := by kernel_rfl
end Go.Proofs.YtfadnkjlilhneaaGreat.fnExactAreCommensurable
