/- The rows of the laws: what arguments read as. -/
import Derived.Test.YtlbmlimaobkhpaaGc
import Derived.Test.YtlbmlimaobkhpaaRows
import Derived.Test.YtlbmlimaobkhpaaLa
set_option linter.unusedVariables false
set_option linter.unusedSimpArgs false
set_option linter.unusedSectionVars false
/- The rows of the laws: what arguments read as. -/
namespace Go.Proofs.Ytlbmlimaobkhpaa
open Go Go.Gv Go.ChangeShapes Go.WideShapes Go.RowKit
set_option maxRecDepth 100000
theorem own : ownKnob Try.prog.godebug = none := by kernel_rfl
theorem kids : Kids Try.prog (· < Try.prog.types.size) := kids_rows (by kernel_rfl) (by kernel_rfl)
theorem full : ∀ {t e : TypeId}, t < Try.prog.types.size → Try.prog.underlying t = some (.slice e) → 0 < Try.prog.cellsOf e := fun {t e} => slices_full_of Try.prog (by kernel_rfl) t e
/-- What a law's walk gives for its row. -/
theorem row_of {H : Type} {enc : TypeId × Value → H} {f : Func} {n : FuncId} {s : ChangeSpec} {apart fresh handsOn again : Bool} {W : World} {args : List Value} {ds : List (DataW H)} {before : List MemPlace}
    (sp : GSpec Try.prog n args (hv W) [] (Ret [] (.bool true))) (ht : f.params.toList.all (fun t => Nat.blt t Try.prog.types.size) = true) (hvars : s.vars = []) (hr : f.resultTypes = #[4])
    (hs1 : (s.fn H ds).results = [.lit (.bool true)]) (hs2 : (s.fn H ds).args = ds) (hs3 : (s.fn H ds).vars = [])
    (hW : DataW.Whole enc Try.prog f.params.toList s.vars apart W args ds [] before) :
    Calls Try.prog n ⟨args⟩ W fun e W' => ∃ v, e = .returned v ∧ s.post enc Try.prog f apart fresh handsOn again W ⟨args⟩ v W' := by
  refine (GSpec.law sp).mono fun e W' ⟨he, hk⟩ => ?_
  subst he
  refine ⟨_, rfl, law_post kids full (fun t h => ?_) hvars hr (by kernel_rfl) hs1 hs2 hs3 hW hk⟩
  have := List.all_eq_true.1 ht t h
  exact Nat.le_of_ble_eq_true this
/-! ### types -/
theorem u3 : Try.prog.underlying 3 = some (.int .i64) := by kernel_rfl
theorem u9 : Try.prog.underlying 9 = some .string := by kernel_rfl
theorem maxI {n : Nat} (h : n ≤ maxLen) : n ≤ 9223372036854775807 := by unfold maxLen at h; omega
theorem flat1 {α : Type} {g : α → Value} (l : List α) : l.flatMap (fun x => [g x]) = l.map g := by induction l with
  | nil => rfl
  | cons x l ih => simp [ih]
end Go.Proofs.Ytlbmlimaobkhpaa
