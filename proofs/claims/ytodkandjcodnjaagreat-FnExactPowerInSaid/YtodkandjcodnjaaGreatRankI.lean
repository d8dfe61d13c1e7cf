/- The program's RankOf and LeastRank. -/
import Derived.Test.YtodkandjcodnjaaGreatCoreI
namespace Go.Proofs.YtodkandjcodnjaaGreat
set_option maxRecDepth 20000
set_option linter.unusedVariables false
set_option linter.unusedSimpArgs false
open Go.RowKit

end Go.Proofs.YtodkandjcodnjaaGreat
