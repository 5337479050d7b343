/- Books: what their own blocks tell. -/
import Derived.Test.YtlbmlimaobkhpaaOa
import Derived.Test.YtlbmlimaobkhpaaGd
set_option linter.unusedVariables false
set_option linter.unusedSimpArgs false
set_option linter.unusedSectionVars false
/- Books: what only their own blocks tell, whoever has their disk. -/
namespace Go.Proofs.Ytlbmlimaobkhpaa
open Go Go.Gv
set_option maxRecDepth 100000
set_option maxHeartbeats 4000000
set_option linter.unusedSimpArgs false
set_option linter.unusedVariables false
/-- A book's own blocks. -/
abbrev kH (q : Nat) (b : Br) (k : Bk) : Hp := bkc b.p (bkV b) q k.at_ k.falls :: lgc b :: lgHp b.ls
structure kOk (b : Br) (k : Bk) : Prop where
  logs : b.logs = k.logs
  ls : lOk b.ls
theorem bOk.k {r : Dr} {d : Dk} {b : Br} {k : Bk} (h : bOk r d b k) : kOk b k := ⟨h.logs, h.ls⟩
end Go.Proofs.Ytlbmlimaobkhpaa
