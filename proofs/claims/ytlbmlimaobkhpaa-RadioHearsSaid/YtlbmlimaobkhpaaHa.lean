/- Functions of the reference: books, parts. -/
import Derived.Test.YtlbmlimaobkhpaaLe
import Derived.Test.YtlbmlimaobkhpaaKa
import Derived.Test.YtlbmlimaobkhpaaRf
import Derived.Test.YtlbmlimaobkhpaaOf
import Derived.Test.YtlbmlimaobkhpaaGd
set_option linter.unusedVariables false
set_option linter.unusedSimpArgs false
set_option linter.unusedSectionVars false
/- The reference's books: parts. -/
namespace Go.Proofs.Ytlbmlimaobkhpaa
open Go Go.Gv
set_option maxRecDepth 100000
set_option maxHeartbeats 4000000
set_option linter.unusedSimpArgs false
set_option linter.unusedVariables false
/-- A book's own block. -/
abbrev bke (p : Nat) (L : Value) (q at_ falls : Nat) : Nat × Obj := (p, .cells ⟨[L, .pointer (some ⟨q, 0, none⟩), iN falls, iN at_]⟩ 169 (0, 0))
end Go.Proofs.Ytlbmlimaobkhpaa
/- The reference's books: writing a record. -/
namespace Go.Proofs.Ytlbmlimaobkhpaa
open Go Go.Gv
set_option maxRecDepth 100000
set_option maxHeartbeats 4000000
set_option linter.unusedSimpArgs false
set_option linter.unusedVariables false
def KeepE (p : Nat) (L : Value) (r : Dr) (X : Dk × Int) (at_ falls n : Nat) (v : Value) (O' : Hp) : Prop :=
  ∃ r', r'.p = r.p ∧ dOk r' X.1 ∧ O' = eHp r' X.1 ++ [bke p L r.p (if X.2 = 0 then at_ + n else at_) falls] ∧ v = .int .i64 X.2
theorem KeepE.no {p : Nat} {L : Value} {r : Dr} {at_ falls n : Nat} {sb wb : Buf} {x y : Dk × Int} (hk : dOk ⟨r.p, sb, wb⟩ x.1) (e : y = x) (h : x.2 ≠ 0) : KeepE p L r y at_ falls n (.int .i64 x.2) (eHp ⟨r.p, sb, wb⟩ x.1 ++ [bke p L r.p at_ falls]) := by
  unfold KeepE
  rw [e, if_neg h]
  exact ⟨⟨r.p, sb, wb⟩, rfl, hk, rfl, rfl⟩
theorem KeepE.yes {p : Nat} {L : Value} {r : Dr} {at_ falls n : Nat} {sb wb : Buf} {x y : Dk × Int} (hk : dOk ⟨r.p, sb, wb⟩ x.1) (e : y = x) (h : x.2 = 0) : KeepE p L r y at_ falls n (.int .i64 0) (eHp ⟨r.p, sb, wb⟩ x.1 ++ [bke p L r.p (at_ + n) falls]) := by
  unfold KeepE
  rw [e, if_pos h, h]
  exact ⟨⟨r.p, sb, wb⟩, rfl, hk, rfl, rfl⟩
end Go.Proofs.Ytlbmlimaobkhpaa
/- The reference's books: a record is read. -/
namespace Go.Proofs.Ytlbmlimaobkhpaa
open Go Go.Gv
set_option maxRecDepth 100000
set_option maxHeartbeats 4000000
set_option linter.unusedSimpArgs false
set_option linter.unusedVariables false
end Go.Proofs.Ytlbmlimaobkhpaa
/- The reference's books: changes. -/
namespace Go.Proofs.Ytlbmlimaobkhpaa
open Go Go.Gv
set_option maxRecDepth 100000
set_option maxHeartbeats 4000000
set_option linter.unusedSimpArgs false
set_option linter.unusedVariables false
end Go.Proofs.Ytlbmlimaobkhpaa
/- The reference's books: a message changes them. -/
namespace Go.Proofs.Ytlbmlimaobkhpaa
open Go Go.Gv
set_option maxRecDepth 100000
set_option maxHeartbeats 4000000
set_option linter.unusedSimpArgs false
set_option linter.unusedVariables false
end Go.Proofs.Ytlbmlimaobkhpaa
/- The reference's books: a message is put. -/
namespace Go.Proofs.Ytlbmlimaobkhpaa
open Go Go.Gv
set_option maxRecDepth 100000
set_option maxHeartbeats 4000000
set_option linter.unusedSimpArgs false
set_option linter.unusedVariables false
/-- A book and its disk. -/
abbrev eH (r : Dr) (d : Dk) (b : Br) (k : Bk) : Hp := eHp r d ++ (bke b.p (bkV b) r.p k.at_ k.falls :: lgc b :: lgHp b.ls)
end Go.Proofs.Ytlbmlimaobkhpaa
/- The reference's books: making. -/
namespace Go.Proofs.Ytlbmlimaobkhpaa
open Go Go.Gv
set_option maxRecDepth 100000
set_option maxHeartbeats 4000000
set_option linter.unusedSimpArgs false
set_option linter.unusedVariables false
def GotE (r : Dr) (x : Dk × Option Bk × Int) (v : Value) (O' : Hp) : Prop :=
  match x.2.1 with
  | some k => ∃ r' b, r'.p = r.p ∧ bOk r' x.1 b k ∧ O' = eH r' x.1 b k ∧ v = .tuple ⟨[pP b.p, .int .i64 x.2.2]⟩
  | none => ∃ r', r'.p = r.p ∧ dOk r' x.1 ∧ O' = eHp r' x.1 ∧ v = .tuple ⟨[.pointer none, .int .i64 x.2.2]⟩
theorem GotE.no {r : Dr} {d : Dk} {e : Int} {sb wb : Buf} (hk : dOk ⟨r.p, sb, wb⟩ d) : GotE r (d, none, e) (.tuple ⟨[.pointer none, .int .i64 e]⟩) (eHp ⟨r.p, sb, wb⟩ d) := ⟨⟨r.p, sb, wb⟩, rfl, hk, rfl, rfl⟩
end Go.Proofs.Ytlbmlimaobkhpaa
