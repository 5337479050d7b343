/- The walk's logic: calls on two parts of what is owned. -/
import Derived.Test.YtlbmlimaobkhpaaGc
set_option linter.unusedVariables false
set_option linter.unusedSimpArgs false
set_option linter.unusedSectionVars false
/- Calls on two parts of what is owned: one that is turned, one that is only read. -/
namespace Go
namespace Gv
variable {P : Program}
theorem Loc.perm {O H : Hp} {f : Hp → Hp} (l : Loc O H f) : O.Perm (H ++ f []) := by
  obtain ⟨A, B, rfl, hf⟩ := l.parts
  rw [hf, List.nil_append, ← List.append_assoc, ← List.append_assoc]
  exact List.perm_append_comm.append_right _
theorem Loc.perm' {O H : Hp} {f : Hp → Hp} (l : Loc O H f) (H' : Hp) : (f H').Perm (H' ++ f []) := by
  obtain ⟨A, B, rfl, hf⟩ := l.parts
  rw [hf, hf, List.nil_append, ← List.append_assoc, ← List.append_assoc]
  exact List.perm_append_comm.append_right _
theorem Loc.two {O H G : Hp} {f g : Hp → Hp} (l : Loc O H f) (m : Loc (f []) G g) (H' : Hp) : (f H').Perm ((G ++ H') ++ g []) := by
  refine (l.perm' H').trans ?_
  refine (m.perm.append_left H').trans ?_
  rw [← List.append_assoc]
  exact List.perm_append_comm.append_right _
end Gv
end Go
