/- The contracts as the laws need them. -/
import Derived.Test.YtlbmlimaobkhpaaOa
import Derived.Test.YtlbmlimaobkhpaaKa
import Derived.Test.YtlbmlimaobkhpaaGd
set_option linter.unusedVariables false
set_option linter.unusedSimpArgs false
set_option linter.unusedSectionVars false
/- Contracts and helpers for the laws over books. -/
namespace Go.Gv
theorem Loc.left {G r H : Hp} {f : Hp → Hp} (l : Loc G H f) : Loc (G ++ r) H (fun H' => f H' ++ r) := by
  obtain ⟨A, B, rfl, hf⟩ := l.parts
  exact ⟨A, B ++ r, by simp, fun H' => by rw [hf]; simp⟩
end Go.Gv
namespace Go.Proofs.Ytlbmlimaobkhpaa
open Go Go.Gv
set_option linter.unusedSimpArgs false
set_option linter.unusedVariables false
theorem pickV_subs {items : List En} {at_ : List Int} {e : En} (h : e ∈ pickV items at_) : e ∈ items := by
  obtain ⟨i, _, h2⟩ := List.mem_flatMap.1 h
  split at h2
  · rw [List.mem_singleton.1 h2]; exact getD_mem' (by omega)
  · cases h2
/-- Taking, where the list is owned as well. -/
theorem f55L (r : Dr) (b : Br) (S T : DB) (B n : Nat) (x : Int) (l : List En) (a : Option Addr) (cap : Nat) (G : Hp) (hw : ∀ e ∈ l, enW e) (hl : l.length < 1000000) (hS : okS B S) (hB : B + 20000 < 1000000000) (hk : bOk r S.1 b S.2) (ht : takeV S l = ⟨T, n, x⟩) (h : View) (hr : Rd h G a (l.flatMap enV)) :
    GSpec Try.prog 55 [pP b.p, .slice a l.length cap] h (G ++ bH r S.1 b S.2) (fun v _ O' => ∃ H', O' = G ++ H' ∧ BR r b T (.tuple ⟨[iN n, .int .i64 x]⟩) v H') := by
  have e := f55 r b S B l a cap G hw hl hS hB hk h hr
  rw [ht] at e
  exact e.mono fun v h' O' ⟨r', b', h1, h2, h3, h4, h5⟩ => ⟨bH r' T.1 b' T.2, h4, r', b', h1, h2, h3, rfl, h5⟩
end Go.Proofs.Ytlbmlimaobkhpaa
