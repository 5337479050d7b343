/- Books are opened. -/
import Derived.Test.YtlbmlimaobkhpaaRf
import Derived.Test.YtlbmlimaobkhpaaKa
import Derived.Test.YtlbmlimaobkhpaaOc
set_option linter.unusedVariables false
set_option linter.unusedSimpArgs false
set_option linter.unusedSectionVars false
/- The program's books: a record is read. -/
namespace Go.Gv
variable {P : Program}
theorem nb_append (l m : List UInt8) : nb (l ++ m) = nb l ++ nb m := by simp [nb]
end Go.Gv
namespace Go.Proofs.Ytlbmlimaobkhpaa
open Go Go.Gv
set_option maxRecDepth 100000
set_option maxHeartbeats 4000000
set_option linter.unusedSimpArgs false
set_option linter.unusedVariables false
end Go.Proofs.Ytlbmlimaobkhpaa
/- The program's books: opening. -/
namespace Go.Proofs.Ytlbmlimaobkhpaa
open Go Go.Gv
set_option maxRecDepth 100000
set_option maxHeartbeats 4000000
set_option linter.unusedSimpArgs false
set_option linter.unusedVariables false
/-- What opening gives. -/
def OpenR (q : Nat) (x : Option Bk × Int) (v : Value) (H : Hp) : Prop :=
  match x.1 with
  | some k => ∃ b, kOk b k ∧ H = kH q b k ∧ v = .tuple ⟨[pP b.p, .int .i64 x.2]⟩
  | none => H = [] ∧ v = .tuple ⟨[.pointer none, .int .i64 x.2]⟩
theorem OpenR.fin {r : Dr} {d : Dk} {p lp a : Nat} {ls : List Lg} {o : Option Bk × Int} {O : Hp} {h : View} (ho : o = (some ⟨ls.map Prod.snd, a, d.falls⟩, 0)) (hl : lOk ls)
    (hs : (dHp r d ++ (bkc p (bkV ⟨p, lp, ls⟩) r.p a d.falls :: lgc ⟨p, lp, ls⟩ :: lgHp ls)).Sublist O) : FinSt (.tuple ⟨[pP p, .int .i64 0]⟩) h O (New (dHp r d) (OpenR r.p o)) := by
  subst ho
  exact .mk h (kH r.p ⟨p, lp, ls⟩ ⟨ls.map Prod.snd, a, d.falls⟩ ++ dHp r d) ((Wk.drop hs).trans (Wk.perm List.perm_append_comm)) ⟨_, rfl, ⟨p, lp, ls⟩, ⟨rfl, hl⟩, rfl, rfl⟩
end Go.Proofs.Ytlbmlimaobkhpaa
