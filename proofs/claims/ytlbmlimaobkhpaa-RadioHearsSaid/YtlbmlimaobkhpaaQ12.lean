/- RadioHears: whatever the input, the law returns true. -/
import Derived.Test.YtlbmlimaobkhpaaPa
import Derived.Test.YtlbmlimaobkhpaaJe
import Derived.Test.YtlbmlimaobkhpaaOz
set_option linter.unusedVariables false
set_option linter.unusedSimpArgs false
set_option linter.unusedSectionVars false
namespace Go.Proofs.Ytlbmlimaobkhpaa.radioHears
open Go Go.Gv Go.ChangeShapes Go.WideShapes Go.ChangeAt Go.RowKit
set_option maxRecDepth 100000
theorem u94 : Try.prog.underlying 94 = some (.slice 9) := by kernel_rfl
theorem c9 : Try.prog.cellsOf 9 = 1 := by kernel_rfl
theorem dSs (W : World) : DecT Try.prog W 94 (Sl.cells (α := List UInt8)) (SlOk Try.prog W (fun s => [sV s]) (fun s => s.length ≤ maxLen)) := dec_slice u94 c9 (by decide) (fun _ => rfl) (dec_str u9)
theorem lifted (os : Os) (started : os.Started) (H : Type) (enc : TypeId × Value → H) :
    ReturnsInHanded {} Try.checked os 14 .any (Rows.radioHearsSpec.pre6 enc Try.prog Try.f14 Rows.radioHearsRow.domain false) (Rows.radioHearsSpec.post enc Try.prog Try.f14 false true false false) := by
  refine returnsInHanded_of_change (C := Try.checked) own started (by kernel_rfl) Try.func14
    (ChangeSpec.witness6 (enc := enc) (C := Try.checked) false ⟨#[], #[.slice none 0 0, .slice none 0 0], []⟩ 8 (by kernel_rfl) (by kernel_rfl) (by kernel_rfl) (by kernel_rfl)) ?_
  intro W base args ds gs before hval0 hW hcnd _
  have hval : ∀ (j : Nat) t v, Try.f14.params[j]? = some t → args[j]? = some v → Value.okWide Try.prog W .any base t v := hval0
  have hW' := hW
  obtain ⟨p, q, hA0, hV, rfl, hfz, hnd⟩ := hW
  have hA : DataW.TrodAll enc Try.prog W 0 (fun _ => true) true Try.f14.params.toList args.toList ds p := hA0
  rw [Try.params14] at hA hval
  obtain ⟨v0, vs0, d0, ds0, p0, q0, hargs, rfl, rfl, h0, r0⟩ := trodAll_cons hA
  obtain ⟨v1, vs1, d1, ds1, p1, q1, rfl, rfl, rfl, h1, r1⟩ := trodAll_cons r0
  obtain ⟨rfl, rfl, rfl⟩ := trodAll_nil r1
  obtain rfl : args = #[v0, v1] := by cases args; simp_all
  obtain ⟨rfl, rfl⟩ := trodVars_none hV
  have k0 := hval 0 94 v0 rfl rfl
  have k1 := hval 1 63 v1 rfl rfl
  clear hA0 hval0 hval
  simp only [List.append_nil] at hW'
  obtain ⟨x, rfl, hx⟩ := arg_slice u94 (dSs W) k0 h0
  obtain ⟨z, rfl, hz⟩ := arg_slice u63 (dEs W) k1 h1
  have hrd := hx.rd
  rw [flat1] at hrd
  exact row_of (f14 x.l z.l x.a z.a x.cap z.cap (maxI (Nat.le_trans hx.le hx.max)) (maxI (Nat.le_trans hz.le hz.max)) _ _ hrd hz.rd) (by decide +kernel) rfl rfl rfl rfl rfl hW'
theorem over : Rows.radioHearsRow.holds Try.pinned (OpenSpec.ofChange Rows.radioHearsSpec) :=
  OpenClaim.holds_of_wide 14 Try.f14 rfl rfl rfl rfl rfl rfl rfl ⟨rfl, rfl, rfl, rfl, rfl⟩ rfl rfl rfl rfl rfl (by kernel_rfl) Try.func14 (by kernel_rfl)
    (of_decide_eq_true (by kernel_rfl)) (by unfold Func.isWrapper; first | (rw [if_pos (by decide +kernel)]; kernel_rfl) | (rw [if_neg (by decide +kernel)]; exact ⟨rfl, rfl⟩))
    (fun os started H enc _ => lifted os started H enc)
/-- The statement. -/
theorem proved : Rows.RadioHearsSaid := over
#print axioms proved
end Go.Proofs.Ytlbmlimaobkhpaa.radioHears
