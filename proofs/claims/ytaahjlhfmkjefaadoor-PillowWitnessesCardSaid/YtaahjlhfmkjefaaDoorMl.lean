/- An entry is added. -/
import Derived.Test.YtaahjlhfmkjefaaDoorMk
import Derived.Test.YtaahjlhfmkjefaaDoorGe
set_option linter.unusedVariables false
set_option linter.unusedSimpArgs false
set_option linter.unusedSectionVars false
/- An entry is added: the program's function and the reference's; the law. -/
namespace Go.Proofs.YtaahjlhfmkjefaaDoor
open Go Go.Gv
set_option maxRecDepth 100000
set_option maxHeartbeats 16000000
set_option linter.unusedSimpArgs false
set_option linter.unusedVariables false
def addE (p : Pl) (s : Sh) : Pl := ⟨p.no, p.cell, p.noise, p.slab, p.jump, p.faults, p.log ++ [s]⟩
def nilP : Pl := ⟨0, 0, 0, 0, 0, 0, []⟩
/-- What adding answers. -/
def addV (p : Pl) (s : Sh) : Pl × Int := if pOk p then (if p.log.length = 32 then (nilP, 2) else if pOk (addE p s) then (addE p s, 0) else (nilP, 1)) else (nilP, 30)
def AddR (p : Pl) (s : Sh) (v : Value) (H : Hp) : Prop := ∃ a c, v = .tuple ⟨[.agg ⟨plV (addV p s).1 a c⟩, .int .i64 (addV p s).2]⟩ ∧ RdH H a ((addV p s).1.log.flatMap shV)
theorem AddR.none {p : Pl} {s : Sh} {e : Int} (h : addV p s = (nilP, e)) : AddR p s (.tuple ⟨[.agg ⟨[.int .i64 0, .int .i64 0, .int .i64 0, .int .i64 0, .int .i64 0, .int .i64 0, .slice none 0 0]⟩, .int .i64 e]⟩) [] :=
  ⟨Option.none, 0, by rw [h]; rfl, by rw [h]; exact Rd.nil⟩
end Go.Proofs.YtaahjlhfmkjefaaDoor
