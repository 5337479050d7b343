/- RadioDoes: whatever the input, the law returns true. -/
import Derived.Test.YtlbmlimaobkhpaaPa
import Derived.Test.YtlbmlimaobkhpaaHg
import Derived.Test.YtlbmlimaobkhpaaOz
set_option linter.unusedVariables false
set_option linter.unusedSimpArgs false
set_option linter.unusedSectionVars false
namespace Go.Proofs.Ytlbmlimaobkhpaa.radioDoes
open Go Go.Gv Go.ChangeShapes Go.WideShapes Go.ChangeAt Go.RowKit
set_option maxRecDepth 100000
theorem u102 : Try.prog.underlying 102 = some (.slice 104) := by kernel_rfl
theorem u104 : Try.prog.underlying 104 = some (.struct #[⟨ "Kind", 3, 0, false, "", "", 0⟩, ⟨ "N", 3, 1, false, "", "", 8⟩, ⟨ "L", 66, 2, false, "", "", 16⟩, ⟨ "S", 9, 3, false, "", "", 40⟩]) := by kernel_rfl
theorem c104 : Try.prog.cellsOf 104 = 4 := by kernel_rfl
theorem dAcs (W : World) : DecT Try.prog W 102 (Sl.cells (α := Ac)) (SlOk Try.prog W acV (fun x => i64 x.n ∧ SlOk Try.prog W (fun n => [zV n]) i64 x.z ∧ x.s.length ≤ 9223372036854775807)) :=
  dec_slice u102 c104 (by decide) (fun _ => rfl) ((dec_struct u104 (by decide +kernel) (by kernel_rfl) (decFs_cons (dec_i64 u3) (decFs_cons (dec_i64 u3) (decFs_cons (dIs W) (decFs_cons (dec_str u9) decFs_nil))))).map
    (fun p => (⟨p.1, p.2.1, p.2.2.1, p.2.2.2.1⟩ : Ac)) (fun _ => rfl) fun _ h => ⟨h.2.1, h.2.2.1, maxI h.2.2.2.1⟩)
theorem lifted (os : Os) (started : os.Started) (H : Type) (enc : TypeId × Value → H) :
    ReturnsInHanded {} Try.checked os 13 .any (Rows.radioDoesSpec.pre6 enc Try.prog Try.f13 Rows.radioDoesRow.domain false) (Rows.radioDoesSpec.post enc Try.prog Try.f13 false true false false) := by
  refine returnsInHanded_of_change (C := Try.checked) own started (by kernel_rfl) Try.func13
    (ChangeSpec.witness6 (enc := enc) (C := Try.checked) false ⟨#[], #[.agg ⟨[.int .i64 0, .int .i64 0, .slice none 0 0]⟩, .slice none 0 0], []⟩ 8 (by kernel_rfl) (by kernel_rfl) (by kernel_rfl) (by kernel_rfl)) ?_
  intro W base args ds gs before hval0 hW hcnd _
  have hval : ∀ (j : Nat) t v, Try.f13.params[j]? = some t → args[j]? = some v → Value.okWide Try.prog W .any base t v := hval0
  have hW' := hW
  obtain ⟨p, q, hA0, hV, rfl, hfz, hnd⟩ := hW
  have hA : DataW.TrodAll enc Try.prog W 0 (fun _ => true) true Try.f13.params.toList args.toList ds p := hA0
  rw [Try.params13] at hA hval
  obtain ⟨v0, vs0, d0, ds0, p0, q0, hargs, rfl, rfl, h0, r0⟩ := trodAll_cons hA
  obtain ⟨v1, vs1, d1, ds1, p1, q1, rfl, rfl, rfl, h1, r1⟩ := trodAll_cons r0
  obtain ⟨rfl, rfl, rfl⟩ := trodAll_nil r1
  obtain rfl : args = #[v0, v1] := by cases args; simp_all
  obtain ⟨rfl, rfl⟩ := trodVars_none hV
  have k0 := hval 0 65 v0 rfl rfl
  have k1 := hval 1 102 v1 rfl rfl
  clear hA0 hval0 hval
  simp only [List.append_nil] at hW'
  obtain ⟨x, rfl, hx⟩ := arg_struct u65 (dWd W) k0 h0
  obtain ⟨z, rfl, hz⟩ := arg_slice u102 (dAcs W) k1 h1
  exact row_of (f13 x.o x.s x.z.a x.z.cap x.z.l z.l z.a z.cap (maxI (Nat.le_trans hx.2.le hx.2.max)) hx.2.all (maxI (Nat.le_trans hz.le hz.max)) _ _ (fun y hy => by
    have h3 := hz.all y hy
    have hrd := h3.2.1.rd
    rw [flat1] at hrd
    exact ⟨h3.1, maxI (Nat.le_trans h3.2.1.le h3.2.1.max), hrd, h3.2.2⟩) hx.2.rd hz.rd) (by decide +kernel) rfl rfl rfl rfl rfl hW'
theorem over : Rows.radioDoesRow.holds Try.pinned (OpenSpec.ofChange Rows.radioDoesSpec) :=
  OpenClaim.holds_of_wide 13 Try.f13 rfl rfl rfl rfl rfl rfl rfl ⟨rfl, rfl, rfl, rfl, rfl⟩ rfl rfl rfl rfl rfl (by kernel_rfl) Try.func13 (by kernel_rfl)
    (of_decide_eq_true (by kernel_rfl)) (by unfold Func.isWrapper; (rw [if_neg (by decide +kernel)]; exact ⟨rfl, rfl⟩))
    (fun os started H enc _ => lifted os started H enc)
/-- The statement. -/
theorem proved : Rows.RadioDoesSaid := over
#print axioms proved
end Go.Proofs.Ytlbmlimaobkhpaa.radioDoes
