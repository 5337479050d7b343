/- Functions of the reference: books opened, taken in. -/
import Derived.Test.YtlbmlimaobkhpaaOf
import Derived.Test.YtlbmlimaobkhpaaHa
import Derived.Test.YtlbmlimaobkhpaaKc
set_option linter.unusedVariables false
set_option linter.unusedSimpArgs false
set_option linter.unusedSectionVars false
/- The reference's books: opening. -/
namespace Go.Proofs.Ytlbmlimaobkhpaa
open Go Go.Gv
set_option maxRecDepth 100000
set_option maxHeartbeats 4000000
set_option linter.unusedSimpArgs false
set_option linter.unusedVariables false
/-- A book's own blocks. -/
abbrev kE (q : Nat) (b : Br) (k : Bk) : Hp := bke b.p (bkV b) q k.at_ k.falls :: lgc b :: lgHp b.ls
/-- What opening gives. -/
def OpenE (q : Nat) (x : Option Bk × Int) (v : Value) (H : Hp) : Prop :=
  match x.1 with
  | some k => ∃ b, kOk b k ∧ H = kE q b k ∧ v = .tuple ⟨[pP b.p, .int .i64 x.2]⟩
  | none => H = [] ∧ v = .tuple ⟨[.pointer none, .int .i64 x.2]⟩
theorem OpenE.fin {r : Dr} {d : Dk} {p lp a : Nat} {ls : List Lg} {o : Option Bk × Int} {O : Hp} {h : View} (ho : o = (some ⟨ls.map Prod.snd, a, d.falls⟩, 0)) (hl : lOk ls)
    (hs : (eHp r d ++ (bke p (bkV ⟨p, lp, ls⟩) r.p a d.falls :: lgc ⟨p, lp, ls⟩ :: lgHp ls)).Sublist O) : FinSt (.tuple ⟨[pP p, .int .i64 0]⟩) h O (New (eHp r d) (OpenE r.p o)) := by
  subst ho
  exact .mk h (kE r.p ⟨p, lp, ls⟩ ⟨ls.map Prod.snd, a, d.falls⟩ ++ eHp r d) ((Wk.drop hs).trans (Wk.perm List.perm_append_comm)) ⟨_, rfl, ⟨p, lp, ls⟩, ⟨rfl, hl⟩, rfl, rfl⟩
end Go.Proofs.Ytlbmlimaobkhpaa
/- The reference's books: taking. -/
namespace Go.Proofs.Ytlbmlimaobkhpaa
open Go Go.Gv
set_option maxRecDepth 100000
set_option maxHeartbeats 8000000
set_option linter.unusedSimpArgs false
set_option linter.unusedVariables false
/-- A book that is up, on a disk that has power. -/
def upS (S : DB) : Prop := S.2.falls = S.1.falls ∧ S.1.off = false
theorem upS.put {S : DB} (h : upS S) {e : En} (h0 : (putV S e).2 = 0) : upS (putV S e).1 := by
  have hk := putV_keep h0
  obtain ⟨a1, a2, _⟩ := keep_on hk
  rw [putV_full hk]
  exact ⟨h.1.trans a2.symm, a1.trans h.2⟩
/-- What a call leaves of a book, its disk, and the rest. -/
def BEG (r : Dr) (b : Br) (S : DB) (X : Value) (G : Hp) (v : Value) (O' : Hp) : Prop := ∃ r' b', r'.p = r.p ∧ b'.p = b.p ∧ bOk r' S.1 b' S.2 ∧ O' = G ++ eH r' S.1 b' S.2 ∧ v = X
theorem BEG.mk {r : Dr} {b : Br} {S : DB} {X : Value} {G : Hp} {sb wb : Buf} {lp : Nat} {ls : List Lg} (hk : bOk ⟨r.p, sb, wb⟩ S.1 ⟨b.p, lp, ls⟩ S.2) : BEG r b S X G X (G ++ eH ⟨r.p, sb, wb⟩ S.1 ⟨b.p, lp, ls⟩ S.2) := ⟨⟨r.p, sb, wb⟩, ⟨b.p, lp, ls⟩, rfl, rfl, hk, rfl, rfl⟩
end Go.Proofs.Ytlbmlimaobkhpaa
