/- RadioCrash: whatever the input, the law returns true. -/
import Derived.Test.YtlbmlimaobkhpaaPa
import Derived.Test.YtlbmlimaobkhpaaOh
import Derived.Test.YtlbmlimaobkhpaaOz
set_option linter.unusedVariables false
set_option linter.unusedSimpArgs false
set_option linter.unusedSectionVars false
namespace Go.Proofs.Ytlbmlimaobkhpaa.radioCrash
open Go Go.Gv Go.ChangeShapes Go.WideShapes Go.ChangeAt Go.RowKit
set_option maxRecDepth 100000
theorem lifted (os : Os) (started : os.Started) (H : Type) (enc : TypeId × Value → H) :
    ReturnsInHanded {} Try.checked os 11 .any (Rows.radioCrashSpec.pre6 enc Try.prog Try.f11 Rows.radioCrashRow.domain false) (Rows.radioCrashSpec.post enc Try.prog Try.f11 false true false false) := by
  refine returnsInHanded_of_change (C := Try.checked) own started (by kernel_rfl) Try.func11
    (ChangeSpec.witness6 (enc := enc) (C := Try.checked) false ⟨#[], #[.agg ⟨[.int .i64 0, .int .i64 0, .slice none 0 0]⟩, .slice none 0 0, .int .i64 0, .int .i64 0, .string ⟨⟨[]⟩⟩], []⟩ 8 (by kernel_rfl) (by kernel_rfl) (by kernel_rfl) (by kernel_rfl)) ?_
  intro W base args ds gs before hval0 hW hcnd _
  have hval : ∀ (j : Nat) t v, Try.f11.params[j]? = some t → args[j]? = some v → Value.okWide Try.prog W .any base t v := hval0
  have hW' := hW
  obtain ⟨p, q, hA0, hV, rfl, hfz, hnd⟩ := hW
  have hA : DataW.TrodAll enc Try.prog W 0 (fun _ => true) true Try.f11.params.toList args.toList ds p := hA0
  rw [Try.params11] at hA hval
  obtain ⟨v0, vs0, d0, ds0, p0, q0, hargs, rfl, rfl, h0, r0⟩ := trodAll_cons hA
  obtain ⟨v1, vs1, d1, ds1, p1, q1, rfl, rfl, rfl, h1, r1⟩ := trodAll_cons r0
  obtain ⟨v2, vs2, d2, ds2, p2, q2, rfl, rfl, rfl, h2, r2⟩ := trodAll_cons r1
  obtain ⟨v3, vs3, d3, ds3, p3, q3, rfl, rfl, rfl, h3, r3⟩ := trodAll_cons r2
  obtain ⟨v4, vs4, d4, ds4, p4, q4, rfl, rfl, rfl, h4, r4⟩ := trodAll_cons r3
  obtain ⟨rfl, rfl, rfl⟩ := trodAll_nil r4
  obtain rfl : args = #[v0, v1, v2, v3, v4] := by cases args; simp_all
  obtain ⟨rfl, rfl⟩ := trodVars_none hV
  have k0 := hval 0 65 v0 rfl rfl
  have k1 := hval 1 66 v1 rfl rfl
  have k2 := hval 2 3 v2 rfl rfl
  have k3 := hval 3 3 v3 rfl rfl
  have k4 := hval 4 9 v4 rfl rfl
  clear hA0 hval0 hval
  simp only [List.append_nil] at hW'
  obtain ⟨x, rfl, hx⟩ := arg_struct u65 (dWd W) k0 h0
  obtain ⟨z, rfl, hz⟩ := arg_slice u66 (dIs W) k1 h1
  obtain ⟨m, rfl, -⟩ := arg_int u3 (dec_i64 u3) k2 h2
  obtain ⟨n, rfl, hn⟩ := arg_int u3 (dec_i64 u3) k3 h3
  obtain ⟨t, rfl, ht⟩ := arg_str u9 k4 h4
  have hrd := hz.rd
  rw [flat1] at hrd
  exact row_of (f11 x.o x.s x.z.a x.z.cap x.z.l z.l z.a z.cap m n t hn.2 (maxI ht) (maxI (Nat.le_trans hx.2.le hx.2.max)) hx.2.all (maxI (Nat.le_trans hz.le hz.max)) _ _ hx.2.rd hrd) (by decide +kernel) rfl rfl rfl rfl rfl hW'
theorem over : Rows.radioCrashRow.holds Try.pinned (OpenSpec.ofChange Rows.radioCrashSpec) :=
  OpenClaim.holds_of_wide 11 Try.f11 rfl rfl rfl rfl rfl rfl rfl ⟨rfl, rfl, rfl, rfl, rfl⟩ rfl rfl rfl rfl rfl (by kernel_rfl) Try.func11 (by kernel_rfl)
    (of_decide_eq_true (by kernel_rfl)) (by unfold Func.isWrapper; first | (rw [if_pos (by decide +kernel)]; kernel_rfl) | (rw [if_neg (by decide +kernel)]; exact ⟨rfl, rfl⟩))
    (fun os started H enc _ => lifted os started H enc)
/-- The statement. -/
theorem proved : Rows.RadioCrashSaid := over
#print axioms proved
end Go.Proofs.Ytlbmlimaobkhpaa.radioCrash
