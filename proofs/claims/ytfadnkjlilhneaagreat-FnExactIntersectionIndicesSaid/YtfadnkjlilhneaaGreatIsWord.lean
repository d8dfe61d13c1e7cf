/- IsWord of the reference and of the program. -/
import Derived.Test.YtfadnkjlilhneaaGreatNum
namespace Go.Proofs.YtfadnkjlilhneaaGreat
set_option maxRecDepth 20000
set_option linter.unusedVariables false
set_option linter.unusedSimpArgs false
open Go.RowKit

end Go.Proofs.YtfadnkjlilhneaaGreat
