/- Disks after a fall. -/
import Derived.Test.YtlbmlimaobkhpaaRe
import Derived.Test.YtlbmlimaobkhpaaRd
import Derived.Test.YtlbmlimaobkhpaaGc
set_option linter.unusedVariables false
set_option linter.unusedSimpArgs false
set_option linter.unusedSectionVars false
/- Disks after a fall: what is stored of the writes that survive. No program in sight. -/
namespace Go.Proofs.Ytlbmlimaobkhpaa
set_option linter.unusedSimpArgs false
set_option linter.unusedVariables false
namespace Dk
def tl (l : List ((Nat × Str) × UInt8)) : Nat := match l.getLast? with | some x => min x.2.toNat 64 | none => 0
theorem tear_ok : ∀ (l : List ((Nat × Str) × UInt8)) (s : List Str), (∀ x ∈ s, x.length = 64) → (∀ p ∈ l, p.1.1 < s.length ∧ p.1.2.length = 64) → ∀ x ∈ tear s l, x.length = 64
  | [], _, h, _ => h
  | [(w, k)], s, h, hl => by
    intro x hx
    have hw := hl _ (List.Mem.head _)
    have hg := h _ (getD_mem (d := []) hw.1)
    rcases List.mem_or_eq_of_mem_set hx with h1 | rfl
    · exact h _ h1
    · rw [List.length_append, List.length_take, List.length_drop]; simp only at hw hg; omega
  | (w, k) :: x :: r, s, h, hl => by
    have hw := hl _ (List.Mem.head _)
    refine tear_ok (x :: r) (s.set w.1 w.2) (fun y hy => ?_) (fun p hp => ?_)
    · rcases List.mem_or_eq_of_mem_set hy with h1 | rfl
      · exact h _ h1
      · exact hw.2
    · rw [List.length_set]; exact hl _ (List.mem_cons_of_mem _ hp)
end Dk
end Go.Proofs.Ytlbmlimaobkhpaa
/- Disks after a fall: the program. -/
namespace Go.Proofs.Ytlbmlimaobkhpaa
open Go Go.Gv
set_option maxRecDepth 100000
set_option maxHeartbeats 4000000
set_option linter.unusedSimpArgs false
set_option linter.unusedVariables false
end Go.Proofs.Ytlbmlimaobkhpaa
