/- Equal books. -/
import Derived.Test.YtlbmlimaobkhpaaHc
import Derived.Test.YtlbmlimaobkhpaaOy
set_option linter.unusedVariables false
set_option linter.unusedSimpArgs false
set_option linter.unusedSectionVars false
/- The laws' helpers: equal books, of the program and of the reference. -/
namespace Go.Gv
theorem Loc.into {O H H2 : Hp} {f g : Hp → Hp} (l : Loc O H f) (m : Loc H H2 g) : Loc O H2 (fun X => f (g X)) := by
  obtain ⟨A, B, rfl, hf⟩ := l.parts
  obtain ⟨C, D, rfl, hg⟩ := m.parts
  exact ⟨A ++ C, D ++ B, by simp, fun X => by rw [hf, hg]; simp⟩
end Go.Gv
namespace Go.Proofs.Ytlbmlimaobkhpaa
open Go Go.Gv
set_option maxRecDepth 100000
set_option maxHeartbeats 8000000
set_option linter.unusedSimpArgs false
set_option linter.unusedVariables false
end Go.Proofs.Ytlbmlimaobkhpaa
