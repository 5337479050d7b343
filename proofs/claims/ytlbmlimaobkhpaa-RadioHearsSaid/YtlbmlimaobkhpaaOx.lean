/- Books: entries, sums. -/
import Derived.Test.YtlbmlimaobkhpaaOc
import Derived.Test.YtlbmlimaobkhpaaKd
set_option linter.unusedVariables false
set_option linter.unusedSimpArgs false
set_option linter.unusedSectionVars false
/- The program's books: the messages of an office, sums of lists. -/
namespace Go.Proofs.Ytlbmlimaobkhpaa
open Go Go.Gv
set_option maxRecDepth 100000
set_option maxHeartbeats 4000000
set_option linter.unusedSimpArgs false
set_option linter.unusedVariables false
theorem f74 (l : List En) (a : Option Addr) (c : Nat) (hl : l.length ≤ 1000) (hok : ∀ e ∈ l, enOk e) (h : View) (O : Hp) (hr : Rd h O a (l.flatMap enV)) :
    GSpec Try.prog 74 [.slice a l.length c] h O (Ret O (.tuple ⟨[uN (sumL l), .int .i64 0]⟩)) := by
  refine GSpec.enter (fn := Try.f74) Try.func74 rfl (by kernel_rfl) ?_
  repeat' (conv => whnf
           first
           | (with_reducible refine NextSt.mk ?_))
  refine LoopSt.fix [2, 3, 5, 6, 9, 10, 11, 12, 13, 14, 15, 16, 17, 18] (fun (k : Nat) => [(9, iN k)]) (fun _ => _) (fun k => k ≤ l.length) (fun k => l.length - k) (0) _ (Wk.refl _ _) (rfl) ?_ ?_ ?_
  · repeat' (first | exact True.intro | refine And.intro ?_ ?_ | rfl)
  · exact Nat.zero_le _
  · intro k d2 hk
    by_cases hkl : k < l.length
    · have hok1 := hok _ (getD_mem' (d := default) hkl)
      have e82 := fun h O => f82 (l.getD k default) (by have := hok1.2.2.2.2; omega) h O
      rw [show chkE (l.getD k default) = 0 from if_pos hok1] at e82
      repeat' (conv => whnf
               first
               | ((with_reducible refine CallSt.rd (f := 82) (X := .int .i64 0) ?_ ?_); (· exact e82 _ _))
               | (((with_reducible apply Cmp.no); · exact fun h => h rfl))
               | ((with_reducible apply LoadSt.rdg (g := enV) (s := 3)); (· rfl); (· (repeat (with_reducible assumption))); (· exact fun _ => rfl); (· decide); · (omega))
               | ((with_reducible apply IdxSl.rdg (g := enV) (s := 3)); (· with_reducible assumption); (· exact fun _ => rfl); (· decide); (· rfl); (· with_reducible rfl); (· (omega)); · (omega))
               | (with_reducible refine NextSt.mk ?_)
               | (with_reducible refine OnBB.tt ?_)
               | (with_reducible refine OnBB.ff ?_)
               | ((with_reducible apply NW.addN); (· with_reducible rfl); (· exact natL _); (· omega))
               | ((with_reducible apply Cmp.yes); · omega)
               | ((with_reducible apply LoadSt.boxAgg); · (repeat (exact List.Mem.head _)))
               | ((with_reducible refine AllocSt.mk ?_); intro _b _hb _hbO)
               | ((with_reducible apply StoreSt.box); (· (repeat (exact Upd.hd))); (· rfl); (· rfl); (· rfl)))
      refine RoundFix.mk (k + 1) ?_ ?_ _ rfl (Wk.drop (by (try dsimp only); (try simp only [List.cons_append, List.nil_append]); (repeat (first | with_reducible exact List.Sublist.refl _ | with_reducible apply List.Sublist.cons)))) ?_
      · omega
      · repeat' (first | exact True.intro | refine And.intro ?_ ?_ | rfl)
      · omega
    · have : k = l.length := by omega
      subst this
      repeat' (conv => whnf
               first
               | ((with_reducible refine CallSt.rd (f := 117) (X := uN (sumL l)) ?_ ?_); (· exact f117 l a c hl hok _ _ hr))
               | (with_reducible refine NextSt.mk ?_)
               | (with_reducible refine OnBB.ff ?_)
               | ((with_reducible apply Cmp.no); · omega))
      conv => whnf
      refine FinSt.ret (by (try dsimp only); (try simp only [List.cons_append, List.nil_append]); (repeat (with_reducible exact List.Sublist.refl _))) ?_
      rfl
end Go.Proofs.Ytlbmlimaobkhpaa
