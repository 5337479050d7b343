/- The contracts of what is wanted. -/
import Derived.Test.YtlbmlimaobkhpaaKd
import Derived.Test.YtlbmlimaobkhpaaOb
set_option linter.unusedVariables false
set_option linter.unusedSimpArgs false
set_option linter.unusedSectionVars false
/- RadioOnce: the contracts as the law needs them. -/
namespace Go.Proofs.Ytlbmlimaobkhpaa
open Go Go.Gv
set_option linter.unusedSimpArgs false
set_option linter.unusedVariables false
end Go.Proofs.Ytlbmlimaobkhpaa
