/- Books: the plain laws of what is wanted. -/
import Derived.Test.YtlbmlimaobkhpaaKa
import Derived.Test.YtlbmlimaobkhpaaOw
set_option linter.unusedVariables false
set_option linter.unusedSimpArgs false
set_option linter.unusedSectionVars false
/- RadioOnce: the plain law. No program in sight. -/
namespace Go.Proofs.Ytlbmlimaobkhpaa
set_option linter.unusedSimpArgs false
set_option linter.unusedVariables false
/-- What the law sees of two books. -/
structure OnceK (g bk : List En) (S0 S1 : DB) (n : Nat) : Prop where
  t1 : takeV S0 g = ⟨S1, n, 0⟩
  t2 : takeV S0 bk = ⟨S1, n, 0⟩
  t3 : takeV S1 g = ⟨S1, 0, 0⟩
  ok0 : okS 20 S0
  ok1 : okS 10580 S1
  fine : fine S1
end Go.Proofs.Ytlbmlimaobkhpaa
/- RadioAgree: the plain law. No program in sight. -/
namespace Go.Proofs.Ytlbmlimaobkhpaa
set_option linter.unusedSimpArgs false
set_option linter.unusedVariables false
/-! ### what is wanted -/
end Go.Proofs.Ytlbmlimaobkhpaa
/- Books: messages that are taken one after the other. No program in sight. -/
namespace Go.Proofs.Ytlbmlimaobkhpaa
set_option linter.unusedSimpArgs false
set_option linter.unusedVariables false
end Go.Proofs.Ytlbmlimaobkhpaa
