/- The walk's logic: calls on two parts of what is owned. -/
import Derived.Test.YtlbmlimaobkhpaaGc
set_option linter.unusedVariables false
set_option linter.unusedSimpArgs false
set_option linter.unusedSectionVars false
/- Calls on two parts of what is owned: one that is turned, one that is only read. -/
namespace Go
namespace Gv
variable {P : Program}
theorem Loc.perm {O H : Hp} {f : Hp → Hp} (l : Loc O H f) : O.Perm (H ++ f []) := by
  obtain ⟨A, B, rfl, hf⟩ := l.parts
  rw [hf, List.nil_append, ← List.append_assoc, ← List.append_assoc]
  exact List.perm_append_comm.append_right _
theorem Loc.perm' {O H : Hp} {f : Hp → Hp} (l : Loc O H f) (H' : Hp) : (f H').Perm (H' ++ f []) := by
  obtain ⟨A, B, rfl, hf⟩ := l.parts
  rw [hf, hf, List.nil_append, ← List.append_assoc, ← List.append_assoc]
  exact List.perm_append_comm.append_right _
theorem Loc.two {O H G : Hp} {f g : Hp → Hp} (l : Loc O H f) (m : Loc (f []) G g) (H' : Hp) : (f H').Perm ((G ++ H') ++ g []) := by
  refine (l.perm' H').trans ?_
  refine (m.perm.append_left H').trans ?_
  rw [← List.append_assoc]
  exact List.perm_append_comm.append_right _
theorem Loc.self {O H : Hp} {f : Hp → Hp} (l : Loc O H f) : f H = O := by
  obtain ⟨A, B, rfl, hf⟩ := l.parts
  exact hf H
/-- A call that turns one part and reads another. -/
theorem CallSt.locG {f : FuncId} {args : List Value} {h : View} {O H G : Hp} {K : Value → View → Hp → Prop} {R : Value → Hp → Prop} {φ ψ : Hp → Hp} (l : Loc O H φ) (m : Loc (φ []) G ψ)
    (sp : GSpec P f args h (G ++ H) fun v _ O' => ∃ H', O' = G ++ H' ∧ R v H') (hk : ∀ v H', R v H' → K v h (φ H')) : CallSt P f args h O K := by
  refine .part (G ++ H) (ψ []) (Wk.perm ?_) (fun v O' => ∃ H', O' = G ++ H' ∧ R v H') sp fun v O' hR => ?_
  · have := l.two m H
    rwa [l.self] at this
  · obtain ⟨H', rfl, h'⟩ := hR
    exact ⟨φ H', Wk.perm (l.two m H').symm, hk v H' h'⟩
/-- A call that makes what is new, over a part in whatever order. -/
theorem GSpec.permNew {f : FuncId} {args : List Value} {h : View} {O H G : Hp} {R : Value → Hp → Prop} (hp : O.Perm (H ++ G)) (sp : GSpec P f args h H (New H R)) : GSpec P f args h O (New O R) := by
  refine ⟨sp.1, fun w hv => ?_⟩
  have hv2 := hv.wk (Wk.perm (h := h) hp)
  refine (sp.2 w (hv2.wk (Wk.drop (List.sublist_append_left _ _)))).mono ?_
  rintro e w' ⟨v, h', O', he, st, N, rfl, hR⟩
  refine ⟨v, h', N ++ O, he, ?_, N, rfl, hR⟩
  have st2 := (st.frame hv2).wk (Wk.perm hp)
  refine st2.postWk (Wk.perm ?_)
  rw [List.append_assoc]
  exact hp.symm.append_left _
theorem GSpec.locGNew' {f : FuncId} {args : List Value} {h : View} {O H G : Hp} {R : Value → Hp → Prop} {φ ψ : Hp → Hp} (l : Loc O H φ) (m : Loc (φ []) G ψ) (sp : GSpec P f args h (H ++ G) (New (H ++ G) R)) : GSpec P f args h O (New O R) := by
  refine GSpec.permNew (G := ψ []) ?_ sp
  have := l.two m H
  rw [l.self] at this
  exact this.trans (List.perm_append_comm.append_right _)
end Gv
end Go
