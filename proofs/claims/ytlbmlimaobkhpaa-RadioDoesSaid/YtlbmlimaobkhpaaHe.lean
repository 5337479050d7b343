/- RadioOpens: the walk. -/
import Derived.Test.YtlbmlimaobkhpaaHd
import Derived.Test.YtlbmlimaobkhpaaLe
set_option linter.unusedVariables false
set_option linter.unusedSimpArgs false
set_option linter.unusedSectionVars false
/- RadioOpens: the walk. (printed by wip/g15.py) -/
namespace Go.Gv
variable {P : Program}
end Go.Gv
namespace Go.Proofs.Ytlbmlimaobkhpaa
open Go Go.Gv
set_option maxRecDepth 100000
set_option maxHeartbeats 16000000
set_option linter.unusedSimpArgs false
set_option linter.unusedVariables false
theorem openI_wf {C : List Str} (hC : ∀ s ∈ C, s.length = 64) : ∀ f a L, wfL L → a ≤ C.length → wfL (openI C f a L).1 ∧ (openI C f a L).2 ≤ C.length ∧ (openI C f a L).1.length = L.length
  | 0, a, L, hw, ha => ⟨hw, ha, rfl⟩
  | f + 1, a, L, hw, ha => by
    rw [openI_succ]
    split
    · split
      · exact ⟨hw, ha, rfl⟩
      · rename_i s hs
        split
        · exact ⟨hw, ha, rfl⟩
        · split
          · rename_i hc
            obtain ⟨h1, h2, h3⟩ := openI_wf hC f (a + secN s.length) (chgd L (enOf s)) (hw.chgd hc) (recC_some hC hs).2.2
            exact ⟨h1, h2, by rw [h3, chgd_len]⟩
          · exact ⟨hw, ha, rfl⟩
    · exact ⟨hw, ha, rfl⟩
theorem openV_some {d : Dk} {B : Nat} {k : Bk} {e : Int} (hd : d.okB B) (h : openV d = (some k, e)) : e = 0 ∧ upS (d, k) ∧ okS B (d, k) ∧ 1 ≤ k.logs.length := by
  have hcm := cont_mem hd
  unfold openV at h
  split at h
  · cases h
  · rename_i ho
    have ho : d.off = false := by cases hx : d.off <;> simp_all
    split at h
    · cases h
    · rename_i s hs
      split at h
      · rename_i hh
        obtain ⟨h1, h2, h3, h4⟩ := hh
        have hr := recC_some hcm hs
        have hsp := secN_pos s.length
        obtain ⟨w1, w2, w3⟩ := openI_wf hcm (cont d).length 1 (List.replicate (s.getD 1 0).toNat []) (wfL.nil h4) (by omega)
        rw [List.length_replicate] at w3
        simp only [Prod.mk.injEq, Option.some.injEq] at h
        obtain ⟨rfl, rfl⟩ := h
        exact ⟨rfl, ⟨rfl, ho⟩, ⟨hd, w1, Nat.le_trans w2 (Nat.le_of_eq (cont_len d))⟩, by show 1 ≤ List.length _; rw [w3]; exact h3⟩
      · cases h
theorem makeV_okB {d : Dk} {B : Nat} (hd : d.okB B) (n : Int) : (makeV d n).1.okB (B + 20) := by
  have h1 := keepV_okB hd 0 (payB n.toNat)
  have h4 : secN (payB n.toNat).length = 1 := by rw [payB_len]; rfl
  rw [h4] at h1
  unfold makeV
  split
  · exact hd.mono (by omega)
  · split
    · exact hd.mono (by omega)
    · split
      · exact h1.mono (by omega)
      · exact h1.mono (by omega)
theorem GotB.sp {r : Dr} {x : Dk × Option Bk × Int} {v : Value} {O' : Hp} (h : GotB r x v O') : ∃ r' G q, r'.p = r.p ∧ dOk r' x.1 ∧ O' = dHp r' x.1 ++ G ∧ v = .tuple ⟨[if x.2.1.isSome then pP q else .pointer none, .int .i64 x.2.2]⟩ := by
  obtain ⟨d, o, e⟩ := x
  cases o with
  | none =>
    obtain ⟨r', h1, h2, h3, h4⟩ := h
    exact ⟨r', [], 0, h1, h2, by rw [h3, List.append_nil], h4⟩
  | some k =>
    obtain ⟨r', b, h1, h2, h3, h4⟩ := h
    exact ⟨r', _, b.p, h1, h2.d, h3, h4⟩
theorem GotE.sp {r : Dr} {x : Dk × Option Bk × Int} {v : Value} {O' : Hp} (h : GotE r x v O') : ∃ r' G q, r'.p = r.p ∧ dOk r' x.1 ∧ O' = eHp r' x.1 ++ G ∧ v = .tuple ⟨[if x.2.1.isSome then pP q else .pointer none, .int .i64 x.2.2]⟩ := by
  obtain ⟨d, o, e⟩ := x
  cases o with
  | none =>
    obtain ⟨r', h1, h2, h3, h4⟩ := h
    exact ⟨r', [], 0, h1, h2, by rw [h3, List.append_nil], h4⟩
  | some k =>
    obtain ⟨r', b, h1, h2, h3, h4⟩ := h
    exact ⟨r', _, b.p, h1, h2.d, h3, h4⟩
end Go.Proofs.Ytlbmlimaobkhpaa
