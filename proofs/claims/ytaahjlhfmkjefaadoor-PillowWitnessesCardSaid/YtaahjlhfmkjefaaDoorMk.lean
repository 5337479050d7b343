/- The law of wider bounds. -/
import Derived.Test.YtaahjlhfmkjefaaDoorMj
set_option linter.unusedVariables false
set_option linter.unusedSimpArgs false
set_option linter.unusedSectionVars false
/- The law of wider bounds: the walk. -/
namespace Go.Proofs.YtaahjlhfmkjefaaDoor
open Go Go.Gv
set_option maxRecDepth 100000
set_option maxHeartbeats 16000000
set_option linter.unusedSimpArgs false
set_option linter.unusedVariables false
end Go.Proofs.YtaahjlhfmkjefaaDoor
