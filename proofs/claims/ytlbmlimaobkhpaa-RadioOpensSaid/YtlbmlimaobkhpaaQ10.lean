/- RadioOpens: whatever the input, the law returns true. -/
import Derived.Test.YtlbmlimaobkhpaaPa
import Derived.Test.YtlbmlimaobkhpaaHe
import Derived.Test.YtlbmlimaobkhpaaOz
set_option linter.unusedVariables false
set_option linter.unusedSimpArgs false
set_option linter.unusedSectionVars false
namespace Go.Proofs.Ytlbmlimaobkhpaa.radioOpens
open Go Go.Gv Go.ChangeShapes Go.WideShapes Go.ChangeAt Go.RowKit
set_option maxRecDepth 100000
theorem u94 : Try.prog.underlying 94 = some (.slice 9) := by kernel_rfl
theorem c9 : Try.prog.cellsOf 9 = 1 := by kernel_rfl
theorem dSs (W : World) : DecT Try.prog W 94 (Sl.cells (α := List UInt8)) (SlOk Try.prog W (fun s => [sV s]) (fun s => s.length ≤ maxLen)) := dec_slice u94 c9 (by decide) (fun _ => rfl) (dec_str u9)
theorem lifted (os : Os) (started : os.Started) (H : Type) (enc : TypeId × Value → H) :
    ReturnsInHanded {} Try.checked os 12 .any (Rows.radioOpensSpec.pre6 enc Try.prog Try.f12 Rows.radioOpensRow.domain false) (Rows.radioOpensSpec.post enc Try.prog Try.f12 false true false false) := by
  refine returnsInHanded_of_change (C := Try.checked) own started (by kernel_rfl) Try.func12
    (ChangeSpec.witness6 (enc := enc) (C := Try.checked) false ⟨#[], #[.agg ⟨[.int .i64 0, .int .i64 0, .slice none 0 0]⟩, .slice none 0 0, .slice none 0 0, .int .i64 0], []⟩ 8 (by kernel_rfl) (by kernel_rfl) (by kernel_rfl) (by kernel_rfl)) ?_
  intro W base args ds gs before hval0 hW hcnd _
  have hval : ∀ (j : Nat) t v, Try.f12.params[j]? = some t → args[j]? = some v → Value.okWide Try.prog W .any base t v := hval0
  have hW' := hW
  obtain ⟨p, q, hA0, hV, rfl, hfz, hnd⟩ := hW
  have hA : DataW.TrodAll enc Try.prog W 0 (fun _ => true) true Try.f12.params.toList args.toList ds p := hA0
  rw [Try.params12] at hA hval
  obtain ⟨v0, vs0, d0, ds0, p0, q0, hargs, rfl, rfl, h0, r0⟩ := trodAll_cons hA
  obtain ⟨v1, vs1, d1, ds1, p1, q1, rfl, rfl, rfl, h1, r1⟩ := trodAll_cons r0
  obtain ⟨v2, vs2, d2, ds2, p2, q2, rfl, rfl, rfl, h2, r2⟩ := trodAll_cons r1
  obtain ⟨v3, vs3, d3, ds3, p3, q3, rfl, rfl, rfl, h3, r3⟩ := trodAll_cons r2
  obtain ⟨rfl, rfl, rfl⟩ := trodAll_nil r3
  obtain rfl : args = #[v0, v1, v2, v3] := by cases args; simp_all
  obtain ⟨rfl, rfl⟩ := trodVars_none hV
  have k0 := hval 0 65 v0 rfl rfl
  have k1 := hval 1 94 v1 rfl rfl
  have k2 := hval 2 66 v2 rfl rfl
  have k3 := hval 3 3 v3 rfl rfl
  clear hA0 hval0 hval
  simp only [List.append_nil] at hW'
  obtain ⟨x, rfl, hx⟩ := arg_struct u65 (dWd W) k0 h0
  obtain ⟨t, rfl, ht⟩ := arg_slice u94 (dSs W) k1 h1
  obtain ⟨z, rfl, hz⟩ := arg_slice u66 (dIs W) k2 h2
  obtain ⟨n, rfl, -⟩ := arg_int u3 (dec_i64 u3) k3 h3
  have hrd := hz.rd
  rw [flat1] at hrd
  have hrt := ht.rd
  rw [flat1] at hrt
  exact row_of (f12 x.o x.s x.z.a x.z.cap x.z.l t.l t.a t.cap z.l z.a z.cap n (maxI (Nat.le_trans hx.2.le hx.2.max)) hx.2.all (maxI (Nat.le_trans ht.le ht.max)) (fun s hs => maxI (ht.all s hs)) (maxI (Nat.le_trans hz.le hz.max)) _ _ hx.2.rd hrt hrd) (by decide +kernel) rfl rfl rfl rfl rfl hW'
theorem over : Rows.radioOpensRow.holds Try.pinned (OpenSpec.ofChange Rows.radioOpensSpec) :=
  OpenClaim.holds_of_wide 12 Try.f12 rfl rfl rfl rfl rfl rfl rfl ⟨rfl, rfl, rfl, rfl, rfl⟩ rfl rfl rfl rfl rfl (by kernel_rfl) Try.func12 (by kernel_rfl)
    (of_decide_eq_true (by kernel_rfl)) (by unfold Func.isWrapper; first | (rw [if_pos (by decide +kernel)]; kernel_rfl) | (rw [if_neg (by decide +kernel)]; exact ⟨rfl, rfl⟩))
    (fun os started H enc _ => lifted os started H enc)
/-- The statement. -/
theorem proved : Rows.RadioOpensSaid := over
#print axioms proved
end Go.Proofs.Ytlbmlimaobkhpaa.radioOpens
