/- Which graphs are valid: IsGraph of the program. -/
import Derived.Test.YtgoghkboklehnaaGrB
namespace Go.Proofs.Ytgoghkboklehnaa
set_option maxRecDepth 20000
set_option linter.unusedVariables false
set_option linter.unusedSimpArgs false
open Go.RowKit
end Go.Proofs.Ytgoghkboklehnaa
