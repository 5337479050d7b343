/- What arguments read as. -/
import Derived.Test.YtlbmlimaobkhpaaPa
import Derived.Test.YtlbmlimaobkhpaaOa
set_option linter.unusedVariables false
set_option linter.unusedSimpArgs false
set_option linter.unusedSectionVars false
/- What worlds, lists of messages and of indices read as. -/
namespace Go.Proofs.Ytlbmlimaobkhpaa
open Go Go.Gv
set_option maxRecDepth 100000
theorem u63 : Try.prog.underlying 63 = some (.slice 70) := by kernel_rfl
theorem u70 : Try.prog.underlying 70 = some (.struct #[⟨ "Office", 3, 0, false, "", "", 0⟩, ⟨ "No", 3, 1, false, "", "", 8⟩, ⟨ "Body", 9, 2, false, "", "", 16⟩]) := by kernel_rfl
theorem c70 : Try.prog.cellsOf 70 = 3 := by kernel_rfl
theorem c3 : Try.prog.cellsOf 3 = 1 := by kernel_rfl
theorem dEs (W : World) : DecT Try.prog W 63 (Sl.cells (α := En)) (SlOk Try.prog W enV (fun e => (i64 e.office ∧ i64 e.no) ∧ e.body.length ≤ 9223372036854775807)) :=
  dec_slice u63 c70 (by decide) (fun _ => rfl) ((dec_struct u70 (by decide +kernel) (by kernel_rfl) (decFs_cons (dec_i64 u3) (decFs_cons (dec_i64 u3) (decFs_cons (dec_str u9) decFs_nil)))).map
    (fun p => (⟨p.1, p.2.1, p.2.2.1⟩ : En)) (fun _ => rfl) fun _ h => ⟨⟨h.1, h.2.1⟩, maxI h.2.2.1⟩)
/-- A world, as it is handed over. -/
structure Wz where
  o : Int
  s : Int
  z : Sl En
end Go.Proofs.Ytlbmlimaobkhpaa
