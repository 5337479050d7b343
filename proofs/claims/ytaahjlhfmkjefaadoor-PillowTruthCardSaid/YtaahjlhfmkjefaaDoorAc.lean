/- The plain law: loads through an end. -/
import Derived.Test.YtaahjlhfmkjefaaDoorAb
set_option linter.unusedVariables false
set_option linter.unusedSimpArgs false
set_option linter.unusedSectionVars false
/- The plain law: loads through an end, made entry by entry. -/
namespace Go.Proofs.YtaahjlhfmkjefaaDoor
section
variable {p : Pl} {w : List Sp} {l : List Int} {k : Nat} {v : Int}
end
/-! ### the list as it fills -/
end Go.Proofs.YtaahjlhfmkjefaaDoor
