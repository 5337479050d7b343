/- RadioLeast: the walk. -/
import Derived.Test.YtlbmlimaobkhpaaOc
import Derived.Test.YtlbmlimaobkhpaaKb
import Derived.Test.YtlbmlimaobkhpaaOb
import Derived.Test.YtlbmlimaobkhpaaOf
import Derived.Test.YtlbmlimaobkhpaaPa
set_option linter.unusedVariables false
set_option linter.unusedSimpArgs false
set_option linter.unusedSectionVars false
/- The laws' helpers: better. -/
namespace Go.Proofs.Ytlbmlimaobkhpaa
open Go Go.Gv
set_option maxRecDepth 100000
set_option maxHeartbeats 4000000
set_option linter.unusedSimpArgs false
set_option linter.unusedVariables false
theorem mt_eq (e x : En) : mt e x = decide ((x.office = e.office ∧ x.no = e.no) ∧ (Op.bytesLess x.body e.body = true ∨ x.body = e.body)) := by
  unfold mt; rw [Bool.eq_iff_iff]; simp
theorem f64 (w : Nat) (b : Br) (K : Bk) (l : List En) (a : Option Addr) (c : Nat) (hl : l.length ≤ 1000) (hb : ∀ e ∈ l, e.body.length ≤ 9223372036854775807) (hw : wfL K.logs) (hk : kOk b K) (hh : ∀ e ∈ l, has K.logs e) (h : View) (O : Hp) {φ : Hp → Hp} (l1 : Gv.Loc O (kH w b K) φ) (hr : Rd h O a (l.flatMap enV)) :
    GSpec Try.prog 64 [pP b.p, .slice a l.length c] h O (Ret O (.bool true)) := by
  have w1 := hw.flat
  refine GSpec.enter (fn := Try.f64) Try.func64 rfl (by kernel_rfl) ?_
  repeat' (conv => whnf
           first
           | (with_reducible refine NextSt.mk ?_))
  conv => whnf
  apply CallSt.new (R := RowR K.logs.flatten)
  · apply GSpec.locNew (H := kH w b K)
    · exact l1
    · exact f57k w b K hw hk _
  rintro _ _ ⟨A, rfl, rfl, hA⟩
  have hrA : Rd h (A.hp 70 (K.logs.flatten.flatMap enV) ++ O) A.a (K.logs.flatten.flatMap enV) := Rd.appL (Buf.rd hA)
  have hrL : Rd h (A.hp 70 (K.logs.flatten.flatMap enV) ++ O) a (l.flatMap enV) := Rd.appR hr
  have hcov : ∀ e ∈ l, fndE e K.logs.flatten K.logs.flatten.length = true := fun e he => has_fnd (hh e he)
  generalize K.logs.flatten = all at *
  repeat' (conv => whnf
           first
           | (with_reducible refine NextSt.mk ?_))
  conv => whnf
  refine LoopSt.fix [4, 6, 7, 8, 11, 12, 13, 14, 15, 16, 17, 18, 19, 20, 21, 22, 23, 24, 25, 26, 27, 28, 29, 30, 31, 32, 33, 34, 35, 36, 37, 38, 39, 40, 41, 42, 43, 44, 45, 46, 47, 48, 49, 50, 51, 52, 53, 54, 55, 56, 57, 58, 59, 60, 61, 62, 63, 64] (fun (i : Nat) => [(6, iN i)]) (fun _ => _) (fun i => i ≤ l.length) (fun i => l.length - i) (0) _ (Wk.refl _ _) (rfl) ?_ ?_ ?_
  · repeat' (first | exact True.intro | refine And.intro ?_ ?_ | rfl | exact congrArg (Value.int _) (by omega) | exact congrArg (fun n => Value.slice _ n _) (by (try dsimp only); omega))
  · exact Nat.zero_le _
  · intro i d2 hi
    by_cases hil : i < l.length
    · have hbi := hb _ (getD_mem (d := default) hil)
      have hci := hcov _ (getD_mem (d := default) hil)
      obtain ⟨e, he⟩ : ∃ x, x = l.getD i default := ⟨_, rfl⟩
      rw [← he] at hbi hci
      repeat' (conv => whnf
               first
               | (with_reducible refine NextSt.mk ?_)
               | (with_reducible refine OnBB.tt ?_)
               | ((with_reducible apply Cmp.yes); · first | omega | (with_reducible assumption) | (with_reducible rfl)))
      conv => whnf
      refine LoopSt.fix [7, 8, 17, 18, 19, 20, 21, 22, 23, 24, 25, 26, 27, 28, 29, 30, 31, 32, 33, 34, 35, 36, 37, 38, 39, 40, 41, 42, 43, 44, 45, 46, 47, 48, 49, 50, 51, 52, 53, 54, 55, 56, 57, 58, 59, 60, 61, 62] (fun (k : Nat) => [(7, .bool (fndE e all k)), (8, iN k)]) (fun _ => _) (fun k => k ≤ all.length) (fun k => all.length - k) (0) _ (Wk.refl _ _) (rfl) ?_ ?_ ?_
      · repeat' (first | exact True.intro | refine And.intro ?_ ?_ | rfl | exact congrArg (Value.int _) (by omega) | exact congrArg (fun n => Value.slice _ n _) (by (try dsimp only); omega))
      · exact Nat.zero_le _
      · intro k d3 hk2
        by_cases hkl : k < all.length
        · have hst := fndE_succ (e := e) hkl
          have hbx := w1.1 _ (getD_mem (d := default) hkl)
          obtain ⟨x, hx⟩ : ∃ x, x = all.getD k default := ⟨_, rfl⟩
          rw [← hx] at hst hbx
          cases hf : fndE e all k with
          | true =>
            rw [hf, Bool.true_or] at hst
            repeat' (conv => whnf
                     first
                     | ((with_reducible refine DrawSt.walk [0, 1, 2, 3, 4, 5, 6, 7, 8, 9, 10, 11, 12, 13, 14, 15, 16, 17, 18, 19, 20, 21, 22, 23, 24, 25, 26, 27, 28, 29, 30, 31, 32, 33, 34, 35, 36, 37, 38, 39, 40] mixed ?_ ?_); · decide +kernel)
                     | (with_reducible refine NextSt.mk ?_)
                     | (with_reducible refine OnBB.tt ?_)
                     | ((with_reducible apply NW.addN); (· first | with_reducible rfl | exact natL _); (· first | with_reducible rfl | exact natL _); (· omega))
                     | ((with_reducible apply Cmp.yes); · first | omega | (with_reducible assumption) | (with_reducible rfl)))
            refine RoundFix.mk (k + 1) ?_ ?_ _ rfl (Wk.drop (by (try dsimp only); (try simp only [List.cons_append, List.nil_append]); (repeat (first | with_reducible exact List.Sublist.refl _ | with_reducible exact List.nil_sublist _ | with_reducible apply List.Sublist.cons_cons | with_reducible apply sub_app | apply List.Sublist.cons_cons | apply sub_app | with_reducible apply List.Sublist.cons | with_reducible apply sub_skip)))) ?_
            · omega
            · repeat' (first | exact True.intro | refine And.intro ?_ ?_ | exact congrArg Value.bool hst.symm | rfl | exact congrArg (Value.int _) (by omega) | exact congrArg (fun n => Value.slice _ n _) (by (try dsimp only); omega))
            · omega
          | false =>
            rw [hf, Bool.false_or] at hst
            by_cases ho : x.office = e.office
            · by_cases hn : x.no = e.no
              · by_cases hbd : Op.bytesLess x.body e.body = true ∨ x.body = e.body
                · repeat' (conv => whnf
                           first
                           | (((with_reducible apply LoadSt.rdf (g := enV) (s := 3)); (· exact hrA); (· exact fun _ => rfl); (· (first | omega | (simp only [List.length_map, List.length_append, List.length_cons, List.length_nil, List.length_take, List.length_drop, List.length_replicate, List.length_set] at *; omega))); (· decide)); rw [← hx])
                           | (((with_reducible apply LoadSt.rdf (g := enV) (s := 3)); (· exact hrL); (· exact fun _ => rfl); (· (first | omega | (simp only [List.length_map, List.length_append, List.length_cons, List.length_nil, List.length_take, List.length_drop, List.length_replicate, List.length_set] at *; omega))); (· decide)); rw [← he])
                           | ((with_reducible refine DrawSt.walk [0, 1, 2, 3, 4, 5, 6, 7, 8, 9, 10, 11, 12, 13, 14, 15, 16, 17, 18, 19, 20, 21, 22, 23, 24, 25, 26, 27, 28, 29, 30, 31, 32, 33, 34, 35, 36, 37, 38, 39, 40] mixed ?_ ?_); · decide +kernel)
                           | ((with_reducible apply IdxSl.bufm (s := 3)); (· with_reducible assumption); (· rfl); (· rfl); (· first | with_reducible rfl | exact natL _); · (first | omega | (simp only [List.length_map, List.length_append, List.length_cons, List.length_nil, List.length_take, List.length_drop, List.length_replicate, List.length_set] at *; omega)))
                           | ((with_reducible apply IdxSl.rdg (g := enV) (s := 3)); (· with_reducible assumption); (· exact fun _ => rfl); (· decide); (· rfl); (· first | with_reducible rfl | exact natL _); (· (first | omega | (simp only [List.length_map, List.length_append, List.length_cons, List.length_nil, List.length_take, List.length_drop, List.length_replicate, List.length_set] at *; omega))); · (first | omega | (simp only [List.length_map, List.length_append, List.length_cons, List.length_nil, List.length_take, List.length_drop, List.length_replicate, List.length_set] at *; omega)))
                           | (with_reducible refine NextSt.mk ?_)
                           | (with_reducible refine OnBB.tt ?_)
                           | (with_reducible refine OnBB.ff ?_)
                           | ((with_reducible apply NW.addN); (· first | with_reducible rfl | exact natL _); (· first | with_reducible rfl | exact natL _); (· omega))
                           | ((with_reducible apply Cmp.yes); · first | omega | (with_reducible assumption) | (with_reducible rfl)))
                  rw [show mt e x = true from by rw [mt_eq, decide_eq_true ⟨⟨ho, hn⟩, hbd⟩]] at hst
                  refine RoundFix.mk (k + 1) ?_ ?_ _ rfl (Wk.drop (by (try dsimp only); (try simp only [List.cons_append, List.nil_append]); (repeat (first | with_reducible exact List.Sublist.refl _ | with_reducible exact List.nil_sublist _ | with_reducible apply List.Sublist.cons_cons | with_reducible apply sub_app | apply List.Sublist.cons_cons | apply sub_app | with_reducible apply List.Sublist.cons | with_reducible apply sub_skip)))) ?_
                  · omega
                  · repeat' (first | exact True.intro | refine And.intro ?_ ?_ | exact congrArg Value.bool hst.symm | rfl | exact congrArg (Value.int _) (by omega) | exact congrArg (fun n => Value.slice _ n _) (by (try dsimp only); omega))
                  · omega
                · repeat' (conv => whnf
                           first
                           | (((with_reducible apply LoadSt.rdf (g := enV) (s := 3)); (· exact hrA); (· exact fun _ => rfl); (· (first | omega | (simp only [List.length_map, List.length_append, List.length_cons, List.length_nil, List.length_take, List.length_drop, List.length_replicate, List.length_set] at *; omega))); (· decide)); rw [← hx])
                           | (((with_reducible apply LoadSt.rdf (g := enV) (s := 3)); (· exact hrL); (· exact fun _ => rfl); (· (first | omega | (simp only [List.length_map, List.length_append, List.length_cons, List.length_nil, List.length_take, List.length_drop, List.length_replicate, List.length_set] at *; omega))); (· decide)); rw [← he])
                           | ((with_reducible refine DrawSt.walk [0, 1, 2, 3, 4, 5, 6, 7, 8, 9, 10, 11, 12, 13, 14, 15, 16, 17, 18, 19, 20, 21, 22, 23, 24, 25, 26, 27, 28, 29, 30, 31, 32, 33, 34, 35, 36, 37, 38, 39, 40] mixed ?_ ?_); · decide +kernel)
                           | ((with_reducible apply IdxSl.bufm (s := 3)); (· with_reducible assumption); (· rfl); (· rfl); (· first | with_reducible rfl | exact natL _); · (first | omega | (simp only [List.length_map, List.length_append, List.length_cons, List.length_nil, List.length_take, List.length_drop, List.length_replicate, List.length_set] at *; omega)))
                           | ((with_reducible apply IdxSl.rdg (g := enV) (s := 3)); (· with_reducible assumption); (· exact fun _ => rfl); (· decide); (· rfl); (· first | with_reducible rfl | exact natL _); (· (first | omega | (simp only [List.length_map, List.length_append, List.length_cons, List.length_nil, List.length_take, List.length_drop, List.length_replicate, List.length_set] at *; omega))); · (first | omega | (simp only [List.length_map, List.length_append, List.length_cons, List.length_nil, List.length_take, List.length_drop, List.length_replicate, List.length_set] at *; omega)))
                           | (with_reducible refine NextSt.mk ?_)
                           | (with_reducible refine OnBB.tt ?_)
                           | (with_reducible refine OnBB.ff ?_)
                           | ((with_reducible apply NW.addN); (· first | with_reducible rfl | exact natL _); (· first | with_reducible rfl | exact natL _); (· omega))
                           | ((with_reducible apply Cmp.yes); · first | omega | (with_reducible assumption) | (with_reducible rfl))
                           | ((with_reducible apply Cmp.no); · first | omega | (with_reducible assumption)))
                  rw [show mt e x = false from by rw [mt_eq, decide_eq_false (fun h => hbd h.2)]] at hst
                  refine RoundFix.mk (k + 1) ?_ ?_ _ rfl (Wk.drop (by (try dsimp only); (try simp only [List.cons_append, List.nil_append]); (repeat (first | with_reducible exact List.Sublist.refl _ | with_reducible exact List.nil_sublist _ | with_reducible apply List.Sublist.cons_cons | with_reducible apply sub_app | apply List.Sublist.cons_cons | apply sub_app | with_reducible apply List.Sublist.cons | with_reducible apply sub_skip)))) ?_
                  · omega
                  · repeat' (first | exact True.intro | refine And.intro ?_ ?_ | exact congrArg Value.bool hst.symm | rfl | exact congrArg (Value.int _) (by omega) | exact congrArg (fun n => Value.slice _ n _) (by (try dsimp only); omega))
                  · omega
              · repeat' (conv => whnf
                         first
                         | (((with_reducible apply LoadSt.rdf (g := enV) (s := 3)); (· exact hrA); (· exact fun _ => rfl); (· (first | omega | (simp only [List.length_map, List.length_append, List.length_cons, List.length_nil, List.length_take, List.length_drop, List.length_replicate, List.length_set] at *; omega))); (· decide)); rw [← hx])
                         | (((with_reducible apply LoadSt.rdf (g := enV) (s := 3)); (· exact hrL); (· exact fun _ => rfl); (· (first | omega | (simp only [List.length_map, List.length_append, List.length_cons, List.length_nil, List.length_take, List.length_drop, List.length_replicate, List.length_set] at *; omega))); (· decide)); rw [← he])
                         | ((with_reducible refine DrawSt.walk [0, 1, 2, 3, 4, 5, 6, 7, 8, 9, 10, 11, 12, 13, 14, 15, 16, 17, 18, 19, 20, 21, 22, 23, 24, 25, 26, 27, 28, 29, 30, 31, 32, 33, 34, 35, 36, 37, 38, 39, 40] mixed ?_ ?_); · decide +kernel)
                         | ((with_reducible apply IdxSl.bufm (s := 3)); (· with_reducible assumption); (· rfl); (· rfl); (· first | with_reducible rfl | exact natL _); · (first | omega | (simp only [List.length_map, List.length_append, List.length_cons, List.length_nil, List.length_take, List.length_drop, List.length_replicate, List.length_set] at *; omega)))
                         | ((with_reducible apply IdxSl.rdg (g := enV) (s := 3)); (· with_reducible assumption); (· exact fun _ => rfl); (· decide); (· rfl); (· first | with_reducible rfl | exact natL _); (· (first | omega | (simp only [List.length_map, List.length_append, List.length_cons, List.length_nil, List.length_take, List.length_drop, List.length_replicate, List.length_set] at *; omega))); · (first | omega | (simp only [List.length_map, List.length_append, List.length_cons, List.length_nil, List.length_take, List.length_drop, List.length_replicate, List.length_set] at *; omega)))
                         | (with_reducible refine NextSt.mk ?_)
                         | (with_reducible refine OnBB.tt ?_)
                         | (with_reducible refine OnBB.ff ?_)
                         | ((with_reducible apply NW.addN); (· first | with_reducible rfl | exact natL _); (· first | with_reducible rfl | exact natL _); (· omega))
                         | ((with_reducible apply Cmp.yes); · first | omega | (with_reducible assumption) | (with_reducible rfl))
                         | ((with_reducible apply Cmp.no); · first | omega | (with_reducible assumption)))
                rw [show mt e x = false from by rw [mt_eq, decide_eq_false (fun h => hn h.1.2)]] at hst
                refine RoundFix.mk (k + 1) ?_ ?_ _ rfl (Wk.drop (by (try dsimp only); (try simp only [List.cons_append, List.nil_append]); (repeat (first | with_reducible exact List.Sublist.refl _ | with_reducible exact List.nil_sublist _ | with_reducible apply List.Sublist.cons_cons | with_reducible apply sub_app | apply List.Sublist.cons_cons | apply sub_app | with_reducible apply List.Sublist.cons | with_reducible apply sub_skip)))) ?_
                · omega
                · repeat' (first | exact True.intro | refine And.intro ?_ ?_ | exact congrArg Value.bool hst.symm | rfl | exact congrArg (Value.int _) (by omega) | exact congrArg (fun n => Value.slice _ n _) (by (try dsimp only); omega))
                · omega
            · repeat' (conv => whnf
                       first
                       | (((with_reducible apply LoadSt.rdf (g := enV) (s := 3)); (· exact hrA); (· exact fun _ => rfl); (· (first | omega | (simp only [List.length_map, List.length_append, List.length_cons, List.length_nil, List.length_take, List.length_drop, List.length_replicate, List.length_set] at *; omega))); (· decide)); rw [← hx])
                       | (((with_reducible apply LoadSt.rdf (g := enV) (s := 3)); (· exact hrL); (· exact fun _ => rfl); (· (first | omega | (simp only [List.length_map, List.length_append, List.length_cons, List.length_nil, List.length_take, List.length_drop, List.length_replicate, List.length_set] at *; omega))); (· decide)); rw [← he])
                       | ((with_reducible refine DrawSt.walk [0, 1, 2, 3, 4, 5, 6, 7, 8, 9, 10, 11, 12, 13, 14, 15, 16, 17, 18, 19, 20, 21, 22, 23, 24, 25, 26, 27, 28, 29, 30, 31, 32, 33, 34, 35, 36, 37, 38, 39, 40] mixed ?_ ?_); · decide +kernel)
                       | ((with_reducible apply IdxSl.bufm (s := 3)); (· with_reducible assumption); (· rfl); (· rfl); (· first | with_reducible rfl | exact natL _); · (first | omega | (simp only [List.length_map, List.length_append, List.length_cons, List.length_nil, List.length_take, List.length_drop, List.length_replicate, List.length_set] at *; omega)))
                       | ((with_reducible apply IdxSl.rdg (g := enV) (s := 3)); (· with_reducible assumption); (· exact fun _ => rfl); (· decide); (· rfl); (· first | with_reducible rfl | exact natL _); (· (first | omega | (simp only [List.length_map, List.length_append, List.length_cons, List.length_nil, List.length_take, List.length_drop, List.length_replicate, List.length_set] at *; omega))); · (first | omega | (simp only [List.length_map, List.length_append, List.length_cons, List.length_nil, List.length_take, List.length_drop, List.length_replicate, List.length_set] at *; omega)))
                       | (with_reducible refine NextSt.mk ?_)
                       | (with_reducible refine OnBB.tt ?_)
                       | (with_reducible refine OnBB.ff ?_)
                       | ((with_reducible apply NW.addN); (· first | with_reducible rfl | exact natL _); (· first | with_reducible rfl | exact natL _); (· omega))
                       | ((with_reducible apply Cmp.yes); · first | omega | (with_reducible assumption) | (with_reducible rfl))
                       | ((with_reducible apply Cmp.no); · first | omega | (with_reducible assumption)))
              rw [show mt e x = false from by rw [mt_eq, decide_eq_false (fun h => ho h.1.1)]] at hst
              refine RoundFix.mk (k + 1) ?_ ?_ _ rfl (Wk.drop (by (try dsimp only); (try simp only [List.cons_append, List.nil_append]); (repeat (first | with_reducible exact List.Sublist.refl _ | with_reducible exact List.nil_sublist _ | with_reducible apply List.Sublist.cons_cons | with_reducible apply sub_app | apply List.Sublist.cons_cons | apply sub_app | with_reducible apply List.Sublist.cons | with_reducible apply sub_skip)))) ?_
              · omega
              · repeat' (first | exact True.intro | refine And.intro ?_ ?_ | exact congrArg Value.bool hst.symm | rfl | exact congrArg (Value.int _) (by omega) | exact congrArg (fun n => Value.slice _ n _) (by (try dsimp only); omega))
              · omega
        · have : k = all.length := by omega
          subst this
          rw [hci]
          repeat' (conv => whnf
                   first
                   | (with_reducible refine NextSt.mk ?_)
                   | (with_reducible refine OnBB.tt ?_)
                   | (with_reducible refine OnBB.ff ?_)
                   | ((with_reducible apply NW.addN); (· first | with_reducible rfl | exact natL _); (· first | with_reducible rfl | exact natL _); (· omega))
                   | ((with_reducible apply Cmp.no); · first | omega | (with_reducible assumption)))
          refine RoundFix.mk (i + 1) ?_ ?_ _ rfl (Wk.drop (by (try dsimp only); (try simp only [List.cons_append, List.nil_append]); (repeat (first | with_reducible exact List.Sublist.refl _ | with_reducible exact List.nil_sublist _ | with_reducible apply List.Sublist.cons_cons | with_reducible apply sub_app | apply List.Sublist.cons_cons | apply sub_app | with_reducible apply List.Sublist.cons | with_reducible apply sub_skip)))) ?_
          · omega
          · repeat' (first | exact True.intro | refine And.intro ?_ ?_ | rfl | exact congrArg (Value.int _) (by omega) | exact congrArg (fun n => Value.slice _ n _) (by (try dsimp only); omega))
          · omega
    · repeat' (conv => whnf
               first
               | (with_reducible refine NextSt.mk ?_)
               | (with_reducible refine OnBB.ff ?_)
               | ((with_reducible apply Cmp.no); · first | omega | (with_reducible assumption)))
      conv => whnf
      refine FinSt.ret (by (try dsimp only); (try simp only [List.cons_append, List.nil_append]); (repeat (first | with_reducible exact List.Sublist.refl _ | with_reducible exact List.nil_sublist _ | with_reducible apply List.Sublist.cons_cons | with_reducible apply sub_app | apply List.Sublist.cons_cons | apply sub_app | with_reducible apply List.Sublist.cons | with_reducible apply sub_skip))) ?_
      rfl
end Go.Proofs.Ytlbmlimaobkhpaa
/- RadioLeast: the walk. -/
namespace Go.Proofs.Ytlbmlimaobkhpaa
open Go Go.Gv
set_option maxRecDepth 100000
set_option maxHeartbeats 16000000
set_option linter.unusedSimpArgs false
set_option linter.unusedVariables false
/-- Is a message among the first ones? -/
def inE (x : En) (g : List En) (k : Nat) : Bool := decide (x ∈ g.take k)
theorem inE_succ {x : En} {g : List En} {k : Nat} (h : k < g.length) : inE x g (k + 1) = (inE x g k || decide (g.getD k default = x)) := by
  unfold inE
  rw [take_succ (d := default) h, Bool.eq_iff_iff, Bool.or_eq_true, decide_eq_true_iff, decide_eq_true_iff, decide_eq_true_iff, List.mem_append, List.mem_singleton]
  exact or_congr Iff.rfl ⟨Eq.symm, Eq.symm⟩
theorem Lst.mono {o k : Nat} {l added : List En} {S : DB} (h : Lst o l k S added) : Lst o l (k + 1) S added := ⟨h.up.mono (Nat.le_succ _), h.len, h.holds, h.has, h.given⟩
theorem f10 (o s : Int) (a : Option Addr) (cap : Nat) (l : List En) (at_ : List Int) (a2 : Option Addr) (c2 bits : Nat) (hbits : bits < 4294967296) (hl : l.length ≤ 9223372036854775807) (hb : ∀ e ∈ l, (i64 e.office ∧ i64 e.no) ∧ e.body.length ≤ 9223372036854775807)
    (hal : at_.length ≤ 9223372036854775807) (h : View) (O : Hp) (h1 : Rd h O a (l.flatMap enV)) (h2 : Rd h O a2 (at_.map zV)) :
    GSpec Try.prog 10 [.agg ⟨[.int .i64 o, .int .i64 s, .slice a l.length cap]⟩, .slice a2 at_.length c2, .int .u32 (bits : Nat)] h O (Ret O (.bool true)) := by
  have e52 : ∀ O, Rd h O a (l.flatMap enV) → GSpec Try.prog 52 [.agg ⟨[.int .i64 o, .int .i64 s, .slice a l.length cap]⟩] h O (Ret O (.bool (decide (Wd.few ⟨o, s, a, cap, l⟩)))) := fun O hr => f52 ⟨o, s, a, cap, l⟩ hl (fun e he => (hb e he).2) h O hr
  by_cases hf : Wd.few ⟨o, s, a, cap, l⟩
  · rw [decide_eq_true hf] at e52
    by_cases h30 : at_.length ≤ 30
    · obtain ⟨⟨hf1, hf2, hf3, hf4, hf5⟩, hf6⟩ := hf
      simp only at hf1 hf2 hf3 hf4 hf5 hf6
      obtain ⟨o, rfl⟩ := nat_of (show 0 ≤ o by omega)
      have e53 : ∀ O, Rd h O a (l.flatMap enV) → Rd h O a2 (at_.map zV) → GSpec Try.prog 53 [.agg ⟨[.int .i64 o, .int .i64 s, .slice a l.length cap]⟩, .slice a2 at_.length c2] h O (New O (RowR (pickV l at_))) := fun O hr hr2 => f53 ⟨o, s, a, cap, l⟩ at_ a2 c2 (by omega) hl h O hr hr2
      have hgl := pickV_len (items := l) at_
      have hgw : ∀ e ∈ pickV l at_, enW e := fun e he => by
        have h3 := hb e (pickV_subs he)
        have h4 := hf6 e (pickV_subs he)
        exact ⟨h3.1.1, h3.1.2, by omega⟩
      generalize pickV l at_ = g at *
      have hup := Lst.new (o := o) (by omega) g
      have hmk := new0_make (n := 4096) (o := o) (by decide) (by omega)
      generalize new0 4096 o = S0 at *
      have e54 : ∀ O, GSpec Try.prog 54 [.agg ⟨[.int .i64 o, .int .i64 s, .slice a l.length cap]⟩, .int .i64 4096] h O (New O (MadeB S0.1 S0.2)) := fun O => f54 ⟨o, s, a, cap, l⟩ 4096 S0.1 S0.2 ⟨by decide, by decide⟩ hmk h O
      refine GSpec.enter (fn := Try.f10) Try.func10 rfl (by kernel_rfl) ?_
      repeat' (conv => whnf
               first
               | ((with_reducible refine CallSt.rd (f := 17) (X := .bool true) ?_ ?_); (· exact f17 _ _))
               | ((with_reducible refine CallSt.rd (f := 52) (X := .bool true) ?_ ?_); (· exact e52 _ (Rd.cons h1)))
               | (with_reducible refine NextSt.mk ?_)
               | (with_reducible refine OnBB.tt ?_)
               | (with_reducible refine OnBB.ff ?_)
               | ((with_reducible apply Cmp.no); · first | omega | (with_reducible assumption))
               | ((with_reducible apply LoadSt.boxAgg); · (repeat (first | exact List.Mem.head _ | with_reducible apply List.mem_append_right | with_reducible apply List.mem_cons_of_mem)))
               | ((with_reducible refine AllocSt.mk ?_); intro _b _hb _hbO))
      conv => whnf
      apply CallSt.new (e54 _); rintro _ _ ⟨r1, b1, hk1, rfl, rfl⟩
      repeat' (conv => whnf
               first
               | (with_reducible refine NextSt.mk ?_)
               | (with_reducible refine OnBB.ff ?_)
               | ((with_reducible apply LoadSt.boxAgg); · (repeat (first | exact List.Mem.head _ | with_reducible apply List.mem_append_right | with_reducible apply List.mem_cons_of_mem))))
      conv => whnf
      apply CallSt.new (e53 _ (Rd.appR (Rd.cons h1)) (Rd.appR (Rd.cons h2))); rintro _ _ ⟨G, rfl, rfl, hG⟩
      repeat' (conv => whnf
               first
               | (with_reducible refine NextSt.mk ?_))
      conv => whnf
      apply CallSt.new (R := TyR S0.2.logs)
      · apply GSpec.locNew (H := bH r1 S0.1 b1 S0.2)
        · (repeat (first | with_reducible exact Loc.hd | with_reducible exact Loc.last | with_reducible exact Loc.one | with_reducible apply Loc.tl | with_reducible apply Loc.skip))
        · exact f59 r1 b1 S0 hup.up.ok.wf hk1 _
      rintro _ _ ⟨A0, B0, rfl, rfl, hA0, hB0⟩
      rw [hup.len] at hA0
      repeat' (conv => whnf
               first
               | (with_reducible refine NextSt.mk ?_))
      conv => whnf
      rw [hup.len]
      obtain ⟨p1, sb1, wb1⟩ := r1
      obtain ⟨q1, lp1, ls1⟩ := b1
      obtain ⟨bx, hbx⟩ : ∃ x, x = _b := ⟨_, rfl⟩
      subst hbx
      refine LoopSt.fix [6, 10, 11, 12, 13, 14, 15, 16, 17, 47, 48, 49, 50, 51, 52, 53, 54, 55, 56, 57, 58, 59, 60, 61, 62, 63, 64, 65, 66, 67, 68, 69, 70, 71, 72, 73, 74, 75, 76, 77, 78, 79, 80, 81, 82, 83, 84, 85, 86, 87, 88, 89, 90, 91, 92, 93, 94, 95, 96, 97, 98, 99, 100, 101, 102, 103, 104, 105, 106, 107, 108, 109, 110, 111, 112, 113, 114, 115, 116, 117, 118, 119, 120, 121, 122, 123, 124, 125] (fun ((k, S, added, Bf, A, sb, wb, lp, ls) : Nat × DB × List En × Buf × Buf × Buf × Buf × Nat × List Lg) => [(10, .slice Bf.a added.length Bf.cap), (11, .slice A.a o A.cap), (12, iN k)]) (fun (k, S, added, Bf, A, sb, wb, lp, ls) => A.hp 3 ((S.2.logs.map fun q => (q.length : Int)).map zV) ++ (Bf.hp 70 (added.flatMap enV) ++ (G.hp 70 (g.flatMap enV) ++ (bH ⟨p1, sb, wb⟩ S.1 ⟨q1, lp, ls⟩ S.2 ++ ((bx, .cells ⟨[.int .i64 o, .int .i64 s, .slice a l.length cap]⟩ 65 (0, 0)) :: O))))) (fun (k, S, added, Bf, A, sb, wb, lp, ls) => k ≤ g.length ∧ Lst o g k S added ∧ added.length ≤ k ∧ Bf.ok 3 (added.flatMap enV) added.length ∧ A.ok 1 ((S.2.logs.map fun q => (q.length : Int)).map zV) o ∧ bOk ⟨p1, sb, wb⟩ S.1 ⟨q1, lp, ls⟩ S.2 ∧ ∀ e ∈ added, e ∈ g) (fun (k, _) => g.length - k) ((0, S0, [], Buf.nil, A0, sb1, wb1, lp1, ls1)) _ (Wk.drop (show (A0.hp 3 ((S0.2.logs.map fun q => (q.length : Int)).map zV) ++ (G.hp 70 (g.flatMap enV) ++ (bH ⟨p1, sb1, wb1⟩ S0.1 ⟨q1, lp1, ls1⟩ S0.2 ++ ((bx, .cells ⟨[.int .i64 o, .int .i64 s, .slice a l.length cap]⟩ 65 (0, 0)) :: O)))).Sublist _ from (List.sublist_append_left _ _).append (List.Sublist.refl _))) (rfl) ?_ ?_ ?_
      · repeat' (first | exact True.intro | refine And.intro ?_ ?_ | rfl | exact congrArg (Value.int _) (by omega) | exact congrArg (fun n => Value.slice _ n _) (by (try dsimp only); omega))
      · exact ⟨Nat.zero_le _, hup, Nat.le_refl _, Buf.nil_ok 3, hA0, hk1, fun e he => by cases he⟩
      · rintro ⟨k, S, added, Bf, A, sb, wb, lp, ls⟩ d2 ⟨hk, hS, hadl, hBf, hA, hkk, hadg⟩
        dsimp only at hk hS hadl hBf hA hkk hadg ⊢
        have hSl := hS.len
        have hSw := hS.up.ok.wf
        have hdiv : bits / 2 ^ k ≤ 4294967295 := Nat.le_trans (Nat.div_le_self _ _) (by omega)
        by_cases hkl : k < g.length
        · have hem := getD_mem' (d := default) hkl
          have hew := hgw _ hem
          have hmod := Nat.mod_lt (bits / 2 ^ k) (show 0 < 2 by decide)
          by_cases hbit : bits / 2 ^ k % 2 = 1
          · have e61 := f61 ⟨p1, sb, wb⟩ ⟨q1, lp, ls⟩ S (20 + 10560 * k) (g.getD k default) hew hS.up.ok (by omega) hkk h
            rcases hS.add hem (by omega) with ⟨T, hadd, hT, hle⟩ | hadd
            · rw [hadd] at e61
              repeat' (conv => whnf
                       first
                       | (((with_reducible apply Bits.and1u); (· rfl); (· exact hdiv)))
                       | ((with_reducible apply LoadSt.rdg (g := enV) (s := 3)); (· rfl); (· (repeat (first | with_reducible assumption | (with_reducible apply Buf.rd; with_reducible assumption) | (with_reducible apply Rd.appL; with_reducible assumption) | (with_reducible apply Rd.appL; with_reducible apply Buf.rd; with_reducible assumption) | with_reducible apply Rd.cons | with_reducible apply Rd.appR))); (· exact fun _ => rfl); (· decide); · (first | omega | (simp only [List.length_map, List.length_append, List.length_cons, List.length_nil, List.length_take, List.length_drop, List.length_replicate, List.length_set] at *; omega)))
                       | ((with_reducible apply IdxSl.bufm (s := 3)); (· with_reducible assumption); (· rfl); (· rfl); (· first | with_reducible rfl | exact natL _); · (first | omega | (simp only [List.length_map, List.length_append, List.length_cons, List.length_nil, List.length_take, List.length_drop, List.length_replicate, List.length_set] at *; omega)))
                       | (with_reducible refine NextSt.mk ?_)
                       | (with_reducible refine OnBB.tt ?_)
                       | ((with_reducible apply Cmp.yes); · first | omega | (with_reducible assumption) | (with_reducible rfl))
                       | ((with_reducible apply ShSt.shrN); (· first | with_reducible rfl | exact natL _); (· first | with_reducible rfl | exact natL _); (· (simp only [IntKind.bits]; omega))))
              conv => whnf
              with_reducible apply CallSt.loc (f := 61) (H := bH ⟨p1, sb, wb⟩ S.1 ⟨q1, lp, ls⟩ S.2) (R := BR ⟨p1, sb, wb⟩ ⟨q1, lp, ls⟩ T (.int .i64 0))
              · (repeat (first | with_reducible exact Loc.hd | with_reducible exact Loc.last | with_reducible exact Loc.one | with_reducible apply Loc.tl | with_reducible apply Loc.skip))
              · exact e61
              rintro _ _ ⟨⟨p3, sb3, wb3⟩, ⟨q3, lp3, ls3⟩, hp3, hq3, hk3, rfl, rfl⟩
              obtain rfl : p1 = p3 := hp3.symm
              obtain rfl : q1 = q3 := hq3.symm
              repeat' (conv => whnf
                       first
                       | (((with_reducible apply Cmp.yes); · rfl))
                       | (((with_reducible apply AppSt.litm (g := enV) (x := g.getD k default) (s := 3) (z := .agg ⟨[.int .i64 0, .int .i64 0, .string ⟨⟨[]⟩⟩]⟩)); (· (repeat (first | with_reducible exact Loc.hd | with_reducible exact Loc.last | with_reducible exact Loc.one | with_reducible apply Loc.tl | with_reducible apply Loc.skip))); (· exact hBf); (· (repeat (first | exact List.Mem.head _ | with_reducible apply List.mem_append_right | with_reducible apply List.mem_cons_of_mem))); (· rfl); (· rfl); (· rfl); (· rfl); (· rfl); (· rfl); (· rfl); (· (show _ * 32 ≤ _; omega)); (· omega); intro C hC))
                       | ((with_reducible apply LoadSt.rdg (g := enV) (s := 3)); (· rfl); (· (repeat (first | with_reducible assumption | (with_reducible apply Buf.rd; with_reducible assumption) | (with_reducible apply Rd.appL; with_reducible assumption) | (with_reducible apply Rd.appL; with_reducible apply Buf.rd; with_reducible assumption) | with_reducible apply Rd.cons | with_reducible apply Rd.appR))); (· exact fun _ => rfl); (· decide); · (first | omega | (simp only [List.length_map, List.length_append, List.length_cons, List.length_nil, List.length_take, List.length_drop, List.length_replicate, List.length_set] at *; omega)))
                       | ((with_reducible apply IdxSl.bufm (s := 3)); (· with_reducible assumption); (· rfl); (· rfl); (· first | with_reducible rfl | exact natL _); · (first | omega | (simp only [List.length_map, List.length_append, List.length_cons, List.length_nil, List.length_take, List.length_drop, List.length_replicate, List.length_set] at *; omega)))
                       | (with_reducible refine NextSt.mk ?_)
                       | (with_reducible refine OnBB.tt ?_)
                       | ((with_reducible refine AllocSt.mk ?_); intro _b _hb _hbO))
              have hl2 : (added ++ [g.getD k default]).length = added.length + 1 := by simp
              rw [← hl2] at hC ⊢
              have hTl := hT.len
              have hTw := hT.up.ok.wf
              repeat' (conv => whnf
                       first
                       | fail)
              conv => whnf
              apply CallSt.new (R := TyR T.2.logs)
              · apply GSpec.locNew (H := bH ⟨p1, sb3, wb3⟩ T.1 ⟨q1, lp3, ls3⟩ T.2)
                · (repeat (first | with_reducible exact Loc.hd | with_reducible exact Loc.last | with_reducible exact Loc.one | with_reducible apply Loc.tl | with_reducible apply Loc.skip))
                · exact f59 ⟨p1, sb3, wb3⟩ ⟨q1, lp3, ls3⟩ T hTw hk3 _
              rintro _ _ ⟨A2, B2, rfl, rfl, hA2, hB2⟩
              rw [hTl] at hA2
              rw [hTl]
              have e64 : ∀ (O : Hp) (φ : Hp → Hp), Gv.Loc O (kH p1 ⟨q1, lp3, ls3⟩ T.2) φ → Rd h O C.a ((added ++ [g.getD k default]).flatMap enV) → GSpec Try.prog 64 [pP q1, .slice C.a (added ++ [g.getD k default]).length C.cap] h O (Ret O (.bool true)) := fun O φ ll hr => f64 p1 ⟨q1, lp3, ls3⟩ T.2 (added ++ [g.getD k default]) C.a C.cap (by rw [List.length_append]; simp only [List.length_cons, List.length_nil]; omega) (fun e he => Nat.le_trans (Nat.le_of_lt (hgw e ((List.mem_append.1 he).elim (hadg e) fun h => by rw [List.mem_singleton.1 h]; exact hem)).2.2) (by decide)) hTw hk3.k hT.has h O ll hr
              repeat' (conv => whnf
                       first
                       | (with_reducible refine NextSt.mk ?_)
                       | (with_reducible refine OnBB.ff ?_)
                       | ((with_reducible apply Cmp.no); · first | omega | (with_reducible assumption))
                       | ((with_reducible apply LoadSt.box); · (repeat (first | exact List.Mem.head _ | with_reducible apply List.mem_append_right | with_reducible apply List.mem_cons_of_mem))))
              conv => whnf
              apply CallSt.rd (f := 64) (X := .bool true)
              · apply e64
                · repeat (first | with_reducible exact Loc.left (Loc.skip Gv.Loc.last) | with_reducible apply Gv.Loc.tl | with_reducible apply Gv.Loc.skip)
                · (repeat (first | with_reducible assumption | (with_reducible apply Buf.rd; with_reducible assumption) | (with_reducible apply Rd.appL; with_reducible assumption) | (with_reducible apply Rd.appL; with_reducible apply Buf.rd; with_reducible assumption) | with_reducible apply Rd.cons | with_reducible apply Rd.appR))
              repeat' (conv => whnf
                       first
                       | (with_reducible refine NextSt.mk ?_)
                       | (with_reducible refine OnBB.tt ?_)
                       | (with_reducible refine OnBB.ff ?_))
              conv => whnf
              refine LoopSt.fix [6, 17, 110, 111, 112, 113, 114, 115, 116, 117, 118, 119, 120, 121, 122, 123, 124] (fun (p : Nat) => [(17, iN p)]) (fun _ => _) (fun p => p ≤ o) (fun p => o - p) (0) _ (Wk.refl _ _) (rfl) ?_ ?_ ?_
              · repeat' (first | exact True.intro | refine And.intro ?_ ?_ | rfl | exact congrArg (Value.int _) (by omega) | exact congrArg (fun n => Value.slice _ n _) (by (try dsimp only); omega))
              · exact Nat.zero_le _
              · intro p d3 hp
                by_cases hpo : p < o
                · have hlp := hle p
                  have m1 : (T.2.logs.map fun q => (q.length : Int)).getD p default = ((T.2.logs.getD p []).length : Int) := mapD (by omega)
                  have m2 : (S.2.logs.map fun q => (q.length : Int)).getD p default = ((S.2.logs.getD p []).length : Int) := mapD (by omega)
                  repeat' (conv => whnf
                           first
                           | (((with_reducible apply LoadSt.rdm (g := zV)); (· exact Rd.appL (Rd.appL (Buf.rd hA2))); (· (rw [List.length_map]; omega))); rw [m1]; unfold zV)
                           | (((with_reducible apply LoadSt.rdm (g := zV)); (· first | exact Rd.appR (Rd.cons (Rd.appL (Buf.rd hA))) | exact Rd.appR (Rd.appL (Buf.rd hA))); (· (rw [List.length_map]; omega))); rw [m2]; unfold zV)
                           | ((with_reducible refine DrawSt.walk [0, 1, 2, 3, 4, 5, 6, 7, 8] mixed ?_ ?_); · decide +kernel)
                           | (with_reducible refine NextSt.mk ?_)
                           | (with_reducible refine OnBB.tt ?_)
                           | (with_reducible refine OnBB.ff ?_)
                           | ((with_reducible apply NW.addN); (· first | with_reducible rfl | exact natL _); (· first | with_reducible rfl | exact natL _); (· omega))
                           | ((with_reducible apply Cmp.yes); · first | omega | (with_reducible assumption) | (with_reducible rfl))
                           | ((with_reducible apply Cmp.no); · first | omega | (with_reducible assumption))
                           | ((with_reducible apply LoadSt.box); · (repeat (first | exact List.Mem.head _ | with_reducible apply List.mem_append_right | with_reducible apply List.mem_cons_of_mem)))
                           | ((with_reducible apply IdxSl.buf1); (· with_reducible assumption); (· rfl); (· rfl); (· first | with_reducible rfl | exact natL _); · (first | omega | (simp only [List.length_map, List.length_append, List.length_cons, List.length_nil, List.length_take, List.length_drop, List.length_replicate, List.length_set] at *; omega))))
                  refine RoundFix.mk (p + 1) ?_ ?_ _ rfl (Wk.drop (by (try dsimp only); (try simp only [List.cons_append, List.nil_append]); (repeat (first | with_reducible exact List.Sublist.refl _ | with_reducible exact List.nil_sublist _ | with_reducible apply List.Sublist.cons_cons | with_reducible apply sub_app | apply List.Sublist.cons_cons | apply sub_app | with_reducible apply List.Sublist.cons | with_reducible apply sub_skip)))) ?_
                  · omega
                  · repeat' (first | exact True.intro | refine And.intro ?_ ?_ | rfl | exact congrArg (Value.int _) (by omega) | exact congrArg (fun n => Value.slice _ n _) (by (try dsimp only); omega))
                  · omega
                · repeat' (conv => whnf
                           first
                           | (with_reducible refine NextSt.mk ?_)
                           | (with_reducible refine OnBB.ff ?_)
                           | ((with_reducible apply NW.addN); (· first | with_reducible rfl | exact natL _); (· first | with_reducible rfl | exact natL _); (· omega))
                           | ((with_reducible apply Cmp.no); · first | omega | (with_reducible assumption))
                           | ((with_reducible apply LoadSt.box); · (repeat (first | exact List.Mem.head _ | with_reducible apply List.mem_append_right | with_reducible apply List.mem_cons_of_mem))))
                  refine RoundFix.mk (k + 1, T, added ++ [g.getD k default], C, A2, sb3, wb3, lp3, ls3) ?_ ?_ _ rfl (Wk.drop (by dsimp only; simp only [List.append_assoc, List.cons_append]; (try dsimp only); (try simp only [List.cons_append, List.nil_append]); (repeat (first | with_reducible exact List.Sublist.refl _ | with_reducible exact List.nil_sublist _ | with_reducible apply List.Sublist.cons_cons | with_reducible apply sub_app | apply List.Sublist.cons_cons | apply sub_app | with_reducible apply List.Sublist.cons | with_reducible apply sub_skip)))) ?_
                  · dsimp only; omega
                  · repeat' (first | exact True.intro | refine And.intro ?_ ?_ | rfl | exact congrArg (Value.int _) (by omega) | exact congrArg (fun n => Value.slice _ n _) (by (try dsimp only); omega))
                  · exact ⟨by omega, hT, by show (added ++ [g.getD k default]).length ≤ k + 1; rw [List.length_append]; simp only [List.length_cons, List.length_nil]; omega, hC, hA2, hk3, fun e he => (List.mem_append.1 he).elim (hadg e) fun h => by rw [List.mem_singleton.1 h]; exact hem⟩
            · rw [hadd] at e61
              have hT := hS.mono
              have hle : ∀ p, (S.2.logs.getD p []).length ≤ (S.2.logs.getD p []).length := fun _ => Nat.le_refl _
              repeat' (conv => whnf
                       first
                       | (((with_reducible apply Bits.and1u); (· rfl); (· exact hdiv)))
                       | ((with_reducible apply LoadSt.rdg (g := enV) (s := 3)); (· rfl); (· (repeat (first | with_reducible assumption | (with_reducible apply Buf.rd; with_reducible assumption) | (with_reducible apply Rd.appL; with_reducible assumption) | (with_reducible apply Rd.appL; with_reducible apply Buf.rd; with_reducible assumption) | with_reducible apply Rd.cons | with_reducible apply Rd.appR))); (· exact fun _ => rfl); (· decide); · (first | omega | (simp only [List.length_map, List.length_append, List.length_cons, List.length_nil, List.length_take, List.length_drop, List.length_replicate, List.length_set] at *; omega)))
                       | ((with_reducible apply IdxSl.bufm (s := 3)); (· with_reducible assumption); (· rfl); (· rfl); (· first | with_reducible rfl | exact natL _); · (first | omega | (simp only [List.length_map, List.length_append, List.length_cons, List.length_nil, List.length_take, List.length_drop, List.length_replicate, List.length_set] at *; omega)))
                       | (with_reducible refine NextSt.mk ?_)
                       | (with_reducible refine OnBB.tt ?_)
                       | ((with_reducible apply Cmp.yes); · first | omega | (with_reducible assumption) | (with_reducible rfl))
                       | ((with_reducible apply ShSt.shrN); (· first | with_reducible rfl | exact natL _); (· first | with_reducible rfl | exact natL _); (· (simp only [IntKind.bits]; omega))))
              conv => whnf
              with_reducible apply CallSt.loc (f := 61) (H := bH ⟨p1, sb, wb⟩ S.1 ⟨q1, lp, ls⟩ S.2) (R := BR ⟨p1, sb, wb⟩ ⟨q1, lp, ls⟩ S (.int .i64 92))
              · (repeat (first | with_reducible exact Loc.hd | with_reducible exact Loc.last | with_reducible exact Loc.one | with_reducible apply Loc.tl | with_reducible apply Loc.skip))
              · exact e61
              rintro _ _ ⟨⟨p3, sb3, wb3⟩, ⟨q3, lp3, ls3⟩, hp3, hq3, hk3, rfl, rfl⟩
              obtain rfl : p1 = p3 := hp3.symm
              obtain rfl : q1 = q3 := hq3.symm
              have hTl := hT.len
              have hTw := hT.up.ok.wf
              repeat' (conv => whnf
                       first
                       | (((with_reducible apply Cmp.no); · exact fun h => h rfl))
                       | (with_reducible refine NextSt.mk ?_)
                       | (with_reducible refine OnBB.ff ?_)
                       | ((with_reducible apply Cmp.no); · first | omega | (with_reducible assumption)))
              conv => whnf
              apply CallSt.new (R := TyR S.2.logs)
              · apply GSpec.locNew (H := bH ⟨p1, sb3, wb3⟩ S.1 ⟨q1, lp3, ls3⟩ S.2)
                · (repeat (first | with_reducible exact Loc.hd | with_reducible exact Loc.last | with_reducible exact Loc.one | with_reducible apply Loc.tl | with_reducible apply Loc.skip))
                · exact f59 ⟨p1, sb3, wb3⟩ ⟨q1, lp3, ls3⟩ S hTw hk3 _
              rintro _ _ ⟨A2, B2, rfl, rfl, hA2, hB2⟩
              rw [hTl] at hA2
              rw [hTl]
              have e64 : ∀ (O : Hp) (φ : Hp → Hp), Gv.Loc O (kH p1 ⟨q1, lp3, ls3⟩ S.2) φ → Rd h O Bf.a ((added).flatMap enV) → GSpec Try.prog 64 [pP q1, .slice Bf.a (added).length Bf.cap] h O (Ret O (.bool true)) := fun O φ ll hr => f64 p1 ⟨q1, lp3, ls3⟩ S.2 (added) Bf.a Bf.cap (by skip; omega) (fun e he => Nat.le_trans (Nat.le_of_lt (hgw e (hadg e he)).2.2) (by decide)) hTw hk3.k hT.has h O ll hr
              repeat' (conv => whnf
                       first
                       | (with_reducible refine NextSt.mk ?_)
                       | (with_reducible refine OnBB.ff ?_)
                       | ((with_reducible apply Cmp.no); · first | omega | (with_reducible assumption))
                       | ((with_reducible apply LoadSt.box); · (repeat (first | exact List.Mem.head _ | with_reducible apply List.mem_append_right | with_reducible apply List.mem_cons_of_mem))))
              conv => whnf
              apply CallSt.rd (f := 64) (X := .bool true)
              · apply e64
                · repeat (first | with_reducible exact Loc.left (Loc.skip Gv.Loc.last) | with_reducible apply Gv.Loc.tl | with_reducible apply Gv.Loc.skip)
                · (repeat (first | with_reducible assumption | (with_reducible apply Buf.rd; with_reducible assumption) | (with_reducible apply Rd.appL; with_reducible assumption) | (with_reducible apply Rd.appL; with_reducible apply Buf.rd; with_reducible assumption) | with_reducible apply Rd.cons | with_reducible apply Rd.appR))
              repeat' (conv => whnf
                       first
                       | (with_reducible refine NextSt.mk ?_)
                       | (with_reducible refine OnBB.tt ?_)
                       | (with_reducible refine OnBB.ff ?_))
              conv => whnf
              refine LoopSt.fix [6, 17, 110, 111, 112, 113, 114, 115, 116, 117, 118, 119, 120, 121, 122, 123, 124] (fun (p : Nat) => [(17, iN p)]) (fun _ => _) (fun p => p ≤ o) (fun p => o - p) (0) _ (Wk.refl _ _) (rfl) ?_ ?_ ?_
              · repeat' (first | exact True.intro | refine And.intro ?_ ?_ | rfl | exact congrArg (Value.int _) (by omega) | exact congrArg (fun n => Value.slice _ n _) (by (try dsimp only); omega))
              · exact Nat.zero_le _
              · intro p d3 hp
                by_cases hpo : p < o
                · have hlp := hle p
                  have m1 : (S.2.logs.map fun q => (q.length : Int)).getD p default = ((S.2.logs.getD p []).length : Int) := mapD (by omega)
                  have m2 : (S.2.logs.map fun q => (q.length : Int)).getD p default = ((S.2.logs.getD p []).length : Int) := mapD (by omega)
                  repeat' (conv => whnf
                           first
                           | (((with_reducible apply LoadSt.rdm (g := zV)); (· exact Rd.appL (Rd.appL (Buf.rd hA2))); (· (rw [List.length_map]; omega))); rw [m1]; unfold zV)
                           | (((with_reducible apply LoadSt.rdm (g := zV)); (· first | exact Rd.appR (Rd.cons (Rd.appL (Buf.rd hA))) | exact Rd.appR (Rd.appL (Buf.rd hA))); (· (rw [List.length_map]; omega))); rw [m2]; unfold zV)
                           | ((with_reducible refine DrawSt.walk [0, 1, 2, 3, 4, 5, 6, 7, 8] mixed ?_ ?_); · decide +kernel)
                           | (with_reducible refine NextSt.mk ?_)
                           | (with_reducible refine OnBB.tt ?_)
                           | (with_reducible refine OnBB.ff ?_)
                           | ((with_reducible apply NW.addN); (· first | with_reducible rfl | exact natL _); (· first | with_reducible rfl | exact natL _); (· omega))
                           | ((with_reducible apply Cmp.yes); · first | omega | (with_reducible assumption) | (with_reducible rfl))
                           | ((with_reducible apply Cmp.no); · first | omega | (with_reducible assumption))
                           | ((with_reducible apply LoadSt.box); · (repeat (first | exact List.Mem.head _ | with_reducible apply List.mem_append_right | with_reducible apply List.mem_cons_of_mem)))
                           | ((with_reducible apply IdxSl.buf1); (· with_reducible assumption); (· rfl); (· rfl); (· first | with_reducible rfl | exact natL _); · (first | omega | (simp only [List.length_map, List.length_append, List.length_cons, List.length_nil, List.length_take, List.length_drop, List.length_replicate, List.length_set] at *; omega))))
                  refine RoundFix.mk (p + 1) ?_ ?_ _ rfl (Wk.drop (by (try dsimp only); (try simp only [List.cons_append, List.nil_append]); (repeat (first | with_reducible exact List.Sublist.refl _ | with_reducible exact List.nil_sublist _ | with_reducible apply List.Sublist.cons_cons | with_reducible apply sub_app | apply List.Sublist.cons_cons | apply sub_app | with_reducible apply List.Sublist.cons | with_reducible apply sub_skip)))) ?_
                  · omega
                  · repeat' (first | exact True.intro | refine And.intro ?_ ?_ | rfl | exact congrArg (Value.int _) (by omega) | exact congrArg (fun n => Value.slice _ n _) (by (try dsimp only); omega))
                  · omega
                · repeat' (conv => whnf
                           first
                           | (with_reducible refine NextSt.mk ?_)
                           | (with_reducible refine OnBB.ff ?_)
                           | ((with_reducible apply NW.addN); (· first | with_reducible rfl | exact natL _); (· first | with_reducible rfl | exact natL _); (· omega))
                           | ((with_reducible apply Cmp.no); · first | omega | (with_reducible assumption))
                           | ((with_reducible apply LoadSt.box); · (repeat (first | exact List.Mem.head _ | with_reducible apply List.mem_append_right | with_reducible apply List.mem_cons_of_mem))))
                  refine RoundFix.mk (k + 1, S, added, Bf, A2, sb3, wb3, lp3, ls3) ?_ ?_ _ rfl (Wk.drop (by dsimp only; simp only [List.append_assoc, List.cons_append]; (try dsimp only); (try simp only [List.cons_append, List.nil_append]); (repeat (first | with_reducible exact List.Sublist.refl _ | with_reducible exact List.nil_sublist _ | with_reducible apply List.Sublist.cons_cons | with_reducible apply sub_app | apply List.Sublist.cons_cons | apply sub_app | with_reducible apply List.Sublist.cons | with_reducible apply sub_skip)))) ?_
                  · dsimp only; omega
                  · repeat' (first | exact True.intro | refine And.intro ?_ ?_ | rfl | exact congrArg (Value.int _) (by omega) | exact congrArg (fun n => Value.slice _ n _) (by (try dsimp only); omega))
                  · exact ⟨by omega, hT, by show (added).length ≤ k + 1; skip; omega, hBf, hA2, hk3, fun e he => hadg e he⟩
          · obtain ⟨T, n, htk, hT, hle⟩ := hS.take hem (by omega)
            repeat' (conv => whnf
                     first
                     | (((with_reducible apply Bits.and1u); (· rfl); (· exact hdiv)))
                     | (((apply SlSl.three (l := k) (r := k + 1) (m := k + 1)); (· rfl); (· rfl); (· rfl); (· omega); (· omega); (· have := Buf.le hG; omega)); rw [Nat.add_sub_cancel_left])
                     | (with_reducible refine NextSt.mk ?_)
                     | (with_reducible refine OnBB.tt ?_)
                     | (with_reducible refine OnBB.ff ?_)
                     | ((with_reducible apply NW.addN); (· first | with_reducible rfl | exact natL _); (· first | with_reducible rfl | exact natL _); (· omega))
                     | ((with_reducible apply Cmp.yes); · first | omega | (with_reducible assumption) | (with_reducible rfl))
                     | ((with_reducible apply Cmp.no); · first | omega | (with_reducible assumption))
                     | ((with_reducible apply ShSt.shrN); (· first | with_reducible rfl | exact natL _); (· first | with_reducible rfl | exact natL _); (· (simp only [IntKind.bits]; omega))))
            conv => whnf
            with_reducible apply CallSt.locG (f := 55) (H := bH ⟨p1, sb, wb⟩ S.1 ⟨q1, lp, ls⟩ S.2) (G := G.hp 70 (g.flatMap enV)) (R := BR ⟨p1, sb, wb⟩ ⟨q1, lp, ls⟩ T (.tuple ⟨[iN n, .int .i64 0]⟩))
            · (repeat (first | with_reducible exact Loc.hd | with_reducible exact Loc.last | with_reducible exact Loc.one | with_reducible apply Loc.tl | with_reducible apply Loc.skip))
            · (repeat (first | with_reducible exact Loc.hd | with_reducible exact Loc.last | with_reducible exact Loc.one | with_reducible apply Loc.tl | with_reducible apply Loc.skip))
            · exact f55L ⟨p1, sb, wb⟩ ⟨q1, lp, ls⟩ S T (20 + 10560 * k) n 0 [g.getD k default] _ 1 _ (fun e he => by rw [List.mem_singleton.1 he]; exact hew) (by show 1 < 1000000; decide) hS.up.ok (by omega) hkk htk _ (one_rd hkl (Buf.rd hG))
            rintro _ _ ⟨⟨p3, sb3, wb3⟩, ⟨q3, lp3, ls3⟩, hp3, hq3, hk3, rfl, rfl⟩
            obtain rfl : p1 = p3 := hp3.symm
            obtain rfl : q1 = q3 := hq3.symm
            have hTl := hT.len
            have hTw := hT.up.ok.wf
            repeat' (conv => whnf
                     first
                     | (((with_reducible apply Cmp.no); · exact fun h => h rfl))
                     | (with_reducible refine NextSt.mk ?_)
                     | (with_reducible refine OnBB.ff ?_))
            conv => whnf
            apply CallSt.new (R := TyR T.2.logs)
            · apply GSpec.locNew (H := bH ⟨p1, sb3, wb3⟩ T.1 ⟨q1, lp3, ls3⟩ T.2)
              · (repeat (first | with_reducible exact Loc.hd | with_reducible exact Loc.last | with_reducible exact Loc.one | with_reducible apply Loc.tl | with_reducible apply Loc.skip))
              · exact f59 ⟨p1, sb3, wb3⟩ ⟨q1, lp3, ls3⟩ T hTw hk3 _
            rintro _ _ ⟨A2, B2, rfl, rfl, hA2, hB2⟩
            rw [hTl] at hA2
            rw [hTl]
            have e64 : ∀ (O : Hp) (φ : Hp → Hp), Gv.Loc O (kH p1 ⟨q1, lp3, ls3⟩ T.2) φ → Rd h O Bf.a ((added).flatMap enV) → GSpec Try.prog 64 [pP q1, .slice Bf.a (added).length Bf.cap] h O (Ret O (.bool true)) := fun O φ ll hr => f64 p1 ⟨q1, lp3, ls3⟩ T.2 (added) Bf.a Bf.cap (by skip; omega) (fun e he => Nat.le_trans (Nat.le_of_lt (hgw e (hadg e he)).2.2) (by decide)) hTw hk3.k hT.has h O ll hr
            repeat' (conv => whnf
                     first
                     | (with_reducible refine NextSt.mk ?_)
                     | (with_reducible refine OnBB.ff ?_)
                     | ((with_reducible apply Cmp.no); · first | omega | (with_reducible assumption))
                     | ((with_reducible apply LoadSt.box); · (repeat (first | exact List.Mem.head _ | with_reducible apply List.mem_append_right | with_reducible apply List.mem_cons_of_mem))))
            conv => whnf
            apply CallSt.rd (f := 64) (X := .bool true)
            · apply e64
              · repeat (first | with_reducible exact Loc.left (Loc.skip Gv.Loc.last) | with_reducible apply Gv.Loc.tl | with_reducible apply Gv.Loc.skip)
              · (repeat (first | with_reducible assumption | (with_reducible apply Buf.rd; with_reducible assumption) | (with_reducible apply Rd.appL; with_reducible assumption) | (with_reducible apply Rd.appL; with_reducible apply Buf.rd; with_reducible assumption) | with_reducible apply Rd.cons | with_reducible apply Rd.appR))
            repeat' (conv => whnf
                     first
                     | (with_reducible refine NextSt.mk ?_)
                     | (with_reducible refine OnBB.tt ?_)
                     | (with_reducible refine OnBB.ff ?_))
            conv => whnf
            refine LoopSt.fix [6, 17, 110, 111, 112, 113, 114, 115, 116, 117, 118, 119, 120, 121, 122, 123, 124] (fun (p : Nat) => [(17, iN p)]) (fun _ => _) (fun p => p ≤ o) (fun p => o - p) (0) _ (Wk.refl _ _) (rfl) ?_ ?_ ?_
            · repeat' (first | exact True.intro | refine And.intro ?_ ?_ | rfl | exact congrArg (Value.int _) (by omega) | exact congrArg (fun n => Value.slice _ n _) (by (try dsimp only); omega))
            · exact Nat.zero_le _
            · intro p d3 hp
              by_cases hpo : p < o
              · have hlp := hle p
                have m1 : (T.2.logs.map fun q => (q.length : Int)).getD p default = ((T.2.logs.getD p []).length : Int) := mapD (by omega)
                have m2 : (S.2.logs.map fun q => (q.length : Int)).getD p default = ((S.2.logs.getD p []).length : Int) := mapD (by omega)
                repeat' (conv => whnf
                         first
                         | (((with_reducible apply LoadSt.rdm (g := zV)); (· exact Rd.appL (Rd.appL (Buf.rd hA2))); (· (rw [List.length_map]; omega))); rw [m1]; unfold zV)
                         | (((with_reducible apply LoadSt.rdm (g := zV)); (· first | exact Rd.appR (Rd.cons (Rd.appL (Buf.rd hA))) | exact Rd.appR (Rd.appL (Buf.rd hA))); (· (rw [List.length_map]; omega))); rw [m2]; unfold zV)
                         | ((with_reducible refine DrawSt.walk [0, 1, 2, 3, 4, 5, 6, 7, 8] mixed ?_ ?_); · decide +kernel)
                         | (with_reducible refine NextSt.mk ?_)
                         | (with_reducible refine OnBB.tt ?_)
                         | (with_reducible refine OnBB.ff ?_)
                         | ((with_reducible apply NW.addN); (· first | with_reducible rfl | exact natL _); (· first | with_reducible rfl | exact natL _); (· omega))
                         | ((with_reducible apply Cmp.yes); · first | omega | (with_reducible assumption) | (with_reducible rfl))
                         | ((with_reducible apply Cmp.no); · first | omega | (with_reducible assumption))
                         | ((with_reducible apply LoadSt.box); · (repeat (first | exact List.Mem.head _ | with_reducible apply List.mem_append_right | with_reducible apply List.mem_cons_of_mem)))
                         | ((with_reducible apply IdxSl.buf1); (· with_reducible assumption); (· rfl); (· rfl); (· first | with_reducible rfl | exact natL _); · (first | omega | (simp only [List.length_map, List.length_append, List.length_cons, List.length_nil, List.length_take, List.length_drop, List.length_replicate, List.length_set] at *; omega))))
                refine RoundFix.mk (p + 1) ?_ ?_ _ rfl (Wk.drop (by (try dsimp only); (try simp only [List.cons_append, List.nil_append]); (repeat (first | with_reducible exact List.Sublist.refl _ | with_reducible exact List.nil_sublist _ | with_reducible apply List.Sublist.cons_cons | with_reducible apply sub_app | apply List.Sublist.cons_cons | apply sub_app | with_reducible apply List.Sublist.cons | with_reducible apply sub_skip)))) ?_
                · omega
                · repeat' (first | exact True.intro | refine And.intro ?_ ?_ | rfl | exact congrArg (Value.int _) (by omega) | exact congrArg (fun n => Value.slice _ n _) (by (try dsimp only); omega))
                · omega
              · repeat' (conv => whnf
                         first
                         | (with_reducible refine NextSt.mk ?_)
                         | (with_reducible refine OnBB.ff ?_)
                         | ((with_reducible apply NW.addN); (· first | with_reducible rfl | exact natL _); (· first | with_reducible rfl | exact natL _); (· omega))
                         | ((with_reducible apply Cmp.no); · first | omega | (with_reducible assumption))
                         | ((with_reducible apply LoadSt.box); · (repeat (first | exact List.Mem.head _ | with_reducible apply List.mem_append_right | with_reducible apply List.mem_cons_of_mem))))
                refine RoundFix.mk (k + 1, T, added, Bf, A2, sb3, wb3, lp3, ls3) ?_ ?_ _ rfl (Wk.drop (by dsimp only; simp only [List.append_assoc, List.cons_append]; (try dsimp only); (try simp only [List.cons_append, List.nil_append]); (repeat (first | with_reducible exact List.Sublist.refl _ | with_reducible exact List.nil_sublist _ | with_reducible apply List.Sublist.cons_cons | with_reducible apply sub_app | apply List.Sublist.cons_cons | apply sub_app | with_reducible apply List.Sublist.cons | with_reducible apply sub_skip)))) ?_
                · dsimp only; omega
                · repeat' (first | exact True.intro | refine And.intro ?_ ?_ | rfl | exact congrArg (Value.int _) (by omega) | exact congrArg (fun n => Value.slice _ n _) (by (try dsimp only); omega))
                · exact ⟨by omega, hT, by show (added).length ≤ k + 1; skip; omega, hBf, hA2, hk3, fun e he => hadg e he⟩
        · have : k = g.length := by omega
          subst this
          repeat' (conv => whnf
                   first
                   | (with_reducible refine NextSt.mk ?_)
                   | (with_reducible refine OnBB.ff ?_)
                   | ((with_reducible apply Cmp.no); · first | omega | (with_reducible assumption)))
          conv => whnf
          apply CallSt.new (R := RowR S.2.logs.flatten)
          · apply GSpec.locNew (H := bH ⟨p1, sb, wb⟩ S.1 ⟨q1, lp, ls⟩ S.2)
            · (repeat (first | with_reducible exact Loc.hd | with_reducible exact Loc.last | with_reducible exact Loc.one | with_reducible apply Loc.tl | with_reducible apply Loc.skip))
            · exact f57 ⟨p1, sb, wb⟩ ⟨q1, lp, ls⟩ S hSw hkk _
          rintro _ _ ⟨E, rfl, rfl, hE⟩
          have w1 := hSw.flat
          have hgiv := hS.given
          have hop := openV_holds hS.up.fine.d.on hS.holds
          have hokd := hS.up.ok.d
          obtain ⟨all, hall⟩ : ∃ x, x = S.2.logs.flatten := ⟨_, rfl⟩
          rw [← hall] at hE w1 hgiv ⊢
          have hrE : ∀ O, Rd h (E.hp 70 (all.flatMap enV) ++ O) E.a (all.flatMap enV) := fun O => Rd.appL (Buf.rd hE)
          have hrG : ∀ X Y Z O, Rd h (X ++ (Y ++ (Z ++ (G.hp 70 (g.flatMap enV) ++ O)))) G.a (g.flatMap enV) := fun X Y Z O => Rd.appR (Rd.appR (Rd.appR (Rd.appL (Buf.rd hG))))
          repeat' (conv => whnf
                   first
                   | (with_reducible refine NextSt.mk ?_))
          conv => whnf
          refine LoopSt.fix [6, 19, 20, 21, 128, 129, 130, 131, 132, 133, 134, 135, 136, 137, 138, 139, 140, 141, 142, 143, 144, 145, 146, 147, 148, 149, 150, 151, 152, 153] (fun (i : Nat) => [(19, iN i)]) (fun _ => _) (fun i => i ≤ all.length) (fun i => all.length - i) (0) _ (Wk.refl _ _) (rfl) ?_ ?_ ?_
          · repeat' (first | exact True.intro | refine And.intro ?_ ?_ | rfl | exact congrArg (Value.int _) (by omega) | exact congrArg (fun n => Value.slice _ n _) (by (try dsimp only); omega))
          · exact Nat.zero_le _
          · intro i d3 hi
            by_cases hil : i < all.length
            · have hxg := hgiv _ (getD_mem' (d := default) hil)
              have hxw := w1.1 _ (getD_mem' (d := default) hil)
              obtain ⟨x, hx⟩ : ∃ x, x = all.getD i default := ⟨_, rfl⟩
              rw [← hx] at hxg hxw
              repeat' (conv => whnf
                       first
                       | (with_reducible refine NextSt.mk ?_)
                       | (with_reducible refine OnBB.tt ?_)
                       | ((with_reducible apply Cmp.yes); · first | omega | (with_reducible assumption) | (with_reducible rfl)))
              conv => whnf
              refine LoopSt.fix [20, 21, 134, 135, 136, 137, 138, 139, 140, 141, 142, 143, 144, 145, 146, 147, 148, 149, 150, 151] (fun (j : Nat) => [(20, .bool (inE x g j)), (21, iN j)]) (fun _ => _) (fun j => j ≤ g.length) (fun j => g.length - j) (0) _ (Wk.refl _ _) (rfl) ?_ ?_ ?_
              · repeat' (first | exact True.intro | refine And.intro ?_ ?_ | rfl | exact congrArg (Value.int _) (by omega) | exact congrArg (fun n => Value.slice _ n _) (by (try dsimp only); omega))
              · exact Nat.zero_le _
              · intro j d4 hj
                by_cases hjl : j < g.length
                · have hst := inE_succ (x := x) hjl
                  have hgj := hgw _ (getD_mem' (d := default) hjl)
                  cases hin : inE x g j with
                  | true =>
                    rw [hin, Bool.true_or] at hst
                    repeat' (conv => whnf
                             first
                             | ((with_reducible refine DrawSt.walk [0, 1, 2, 3, 4, 5, 6, 7, 8, 9, 10, 11, 12] mixed ?_ ?_); · decide +kernel)
                             | (with_reducible refine NextSt.mk ?_)
                             | (with_reducible refine OnBB.tt ?_)
                             | ((with_reducible apply NW.addN); (· first | with_reducible rfl | exact natL _); (· first | with_reducible rfl | exact natL _); (· omega))
                             | ((with_reducible apply Cmp.yes); · first | omega | (with_reducible assumption) | (with_reducible rfl)))
                    refine RoundFix.mk (j + 1) ?_ ?_ _ rfl (Wk.drop (by (try dsimp only); (try simp only [List.cons_append, List.nil_append]); (repeat (first | with_reducible exact List.Sublist.refl _ | with_reducible exact List.nil_sublist _ | with_reducible apply List.Sublist.cons_cons | with_reducible apply sub_app | apply List.Sublist.cons_cons | apply sub_app | with_reducible apply List.Sublist.cons | with_reducible apply sub_skip)))) ?_
                    · omega
                    · repeat' (first | exact True.intro | refine And.intro ?_ ?_ | exact congrArg Value.bool hst.symm | rfl | exact congrArg (Value.int _) (by omega) | exact congrArg (fun n => Value.slice _ n _) (by (try dsimp only); omega))
                    · omega
                  | false =>
                    rw [hin, Bool.false_or] at hst
                    by_cases hxe : g.getD j default = x
                    · rw [decide_eq_true hxe] at hst
                      repeat' (conv => whnf
                               first
                               | ((refine eq70 hgj (by rw [← hx]; exact hxw) ?_); rw [← hx, decide_eq_true hxe])
                               | ((with_reducible refine DrawSt.walk [0, 1, 2, 3, 4, 5, 6, 7, 8, 9, 10, 11, 12] mixed ?_ ?_); · decide +kernel)
                               | ((with_reducible apply LoadSt.rdg (g := enV) (s := 3)); (· rfl); (· (repeat (first | with_reducible assumption | (with_reducible apply Buf.rd; with_reducible assumption) | (with_reducible apply Rd.appL; with_reducible assumption) | (with_reducible apply Rd.appL; with_reducible apply Buf.rd; with_reducible assumption) | with_reducible apply Rd.cons | with_reducible apply Rd.appR))); (· exact fun _ => rfl); (· decide); · (first | omega | (simp only [List.length_map, List.length_append, List.length_cons, List.length_nil, List.length_take, List.length_drop, List.length_replicate, List.length_set] at *; omega)))
                               | ((with_reducible apply IdxSl.bufm (s := 3)); (· with_reducible assumption); (· rfl); (· rfl); (· first | with_reducible rfl | exact natL _); · (first | omega | (simp only [List.length_map, List.length_append, List.length_cons, List.length_nil, List.length_take, List.length_drop, List.length_replicate, List.length_set] at *; omega)))
                               | (with_reducible refine NextSt.mk ?_)
                               | (with_reducible refine OnBB.tt ?_)
                               | (with_reducible refine OnBB.ff ?_)
                               | ((with_reducible apply NW.addN); (· first | with_reducible rfl | exact natL _); (· first | with_reducible rfl | exact natL _); (· omega))
                               | ((with_reducible apply Cmp.yes); · first | omega | (with_reducible assumption) | (with_reducible rfl)))
                      refine RoundFix.mk (j + 1) ?_ ?_ _ rfl (Wk.drop (by (try dsimp only); (try simp only [List.cons_append, List.nil_append]); (repeat (first | with_reducible exact List.Sublist.refl _ | with_reducible exact List.nil_sublist _ | with_reducible apply List.Sublist.cons_cons | with_reducible apply sub_app | apply List.Sublist.cons_cons | apply sub_app | with_reducible apply List.Sublist.cons | with_reducible apply sub_skip)))) ?_
                      · omega
                      · repeat' (first | exact True.intro | refine And.intro ?_ ?_ | exact congrArg Value.bool hst.symm | rfl | exact congrArg (Value.int _) (by omega) | exact congrArg (fun n => Value.slice _ n _) (by (try dsimp only); omega))
                      · omega
                    · rw [decide_eq_false hxe] at hst
                      repeat' (conv => whnf
                               first
                               | ((refine eq70 hgj (by rw [← hx]; exact hxw) ?_); rw [← hx, decide_eq_false hxe])
                               | ((with_reducible refine DrawSt.walk [0, 1, 2, 3, 4, 5, 6, 7, 8, 9, 10, 11, 12] mixed ?_ ?_); · decide +kernel)
                               | ((with_reducible apply LoadSt.rdg (g := enV) (s := 3)); (· rfl); (· (repeat (first | with_reducible assumption | (with_reducible apply Buf.rd; with_reducible assumption) | (with_reducible apply Rd.appL; with_reducible assumption) | (with_reducible apply Rd.appL; with_reducible apply Buf.rd; with_reducible assumption) | with_reducible apply Rd.cons | with_reducible apply Rd.appR))); (· exact fun _ => rfl); (· decide); · (first | omega | (simp only [List.length_map, List.length_append, List.length_cons, List.length_nil, List.length_take, List.length_drop, List.length_replicate, List.length_set] at *; omega)))
                               | ((with_reducible apply IdxSl.bufm (s := 3)); (· with_reducible assumption); (· rfl); (· rfl); (· first | with_reducible rfl | exact natL _); · (first | omega | (simp only [List.length_map, List.length_append, List.length_cons, List.length_nil, List.length_take, List.length_drop, List.length_replicate, List.length_set] at *; omega)))
                               | (with_reducible refine NextSt.mk ?_)
                               | (with_reducible refine OnBB.tt ?_)
                               | (with_reducible refine OnBB.ff ?_)
                               | ((with_reducible apply NW.addN); (· first | with_reducible rfl | exact natL _); (· first | with_reducible rfl | exact natL _); (· omega))
                               | ((with_reducible apply Cmp.yes); · first | omega | (with_reducible assumption) | (with_reducible rfl)))
                      refine RoundFix.mk (j + 1) ?_ ?_ _ rfl (Wk.drop (by (try dsimp only); (try simp only [List.cons_append, List.nil_append]); (repeat (first | with_reducible exact List.Sublist.refl _ | with_reducible exact List.nil_sublist _ | with_reducible apply List.Sublist.cons_cons | with_reducible apply sub_app | apply List.Sublist.cons_cons | apply sub_app | with_reducible apply List.Sublist.cons | with_reducible apply sub_skip)))) ?_
                      · omega
                      · repeat' (first | exact True.intro | refine And.intro ?_ ?_ | exact congrArg Value.bool hst.symm | rfl | exact congrArg (Value.int _) (by omega) | exact congrArg (fun n => Value.slice _ n _) (by (try dsimp only); omega))
                      · omega
                · have : j = g.length := by omega
                  subst this
                  rw [show inE x g g.length = true from decide_eq_true (by rw [List.take_length]; exact hxg)]
                  repeat' (conv => whnf
                           first
                           | (with_reducible refine NextSt.mk ?_)
                           | (with_reducible refine OnBB.tt ?_)
                           | (with_reducible refine OnBB.ff ?_)
                           | ((with_reducible apply NW.addN); (· first | with_reducible rfl | exact natL _); (· first | with_reducible rfl | exact natL _); (· omega))
                           | ((with_reducible apply Cmp.no); · first | omega | (with_reducible assumption)))
                  refine RoundFix.mk (i + 1) ?_ ?_ _ rfl (Wk.drop (by (try dsimp only); (try simp only [List.cons_append, List.nil_append]); (repeat (first | with_reducible exact List.Sublist.refl _ | with_reducible exact List.nil_sublist _ | with_reducible apply List.Sublist.cons_cons | with_reducible apply sub_app | apply List.Sublist.cons_cons | apply sub_app | with_reducible apply List.Sublist.cons | with_reducible apply sub_skip)))) ?_
                  · omega
                  · repeat' (first | exact True.intro | refine And.intro ?_ ?_ | rfl | exact congrArg (Value.int _) (by omega) | exact congrArg (fun n => Value.slice _ n _) (by (try dsimp only); omega))
                  · omega
            · repeat' (conv => whnf
                       first
                       | (with_reducible refine NextSt.mk ?_)
                       | (with_reducible refine OnBB.ff ?_)
                       | ((with_reducible apply Cmp.no); · first | omega | (with_reducible assumption)))
              conv => whnf
              have e65 := f65 ⟨p1, sb, wb⟩ S.1 _ hokd (by omega) hkk.d h
              rw [hop] at e65
              apply CallSt.new (R := OpenR p1 (some ⟨S.2.logs, S.2.at_, S.1.falls⟩, 0))
              · apply GSpec.locNew (H := dHp ⟨p1, sb, wb⟩ S.1)
                · exact Loc.skip (Loc.skip (Loc.skip (Loc.skip (Loc.left Gv.Loc.hd))))
                · exact e65
              rintro _ _ ⟨b9, hk9, rfl, rfl⟩
              repeat' (conv => whnf
                       first
                       | (((with_reducible apply Cmp.yes); · rfl))
                       | (with_reducible refine NextSt.mk ?_)
                       | (with_reducible refine OnBB.tt ?_))
              conv => whnf
              refine CallSt.rd (f := 56) (X := .bool true) ?_ ?_
              · rw [← decide_eq_true (rfl : S.2.logs = S.2.logs)]
                exact f56k p1 p1 ⟨q1, lp, ls⟩ b9 S.2 ⟨S.2.logs, S.2.at_, S.1.falls⟩ _ (Loc.skip (Loc.skip (Loc.skip (Loc.skip (Loc.skip (Loc.left (Loc.skip Loc.last))))))) Gv.Loc.hd hSw hSw hkk.k hk9 _
              repeat' (conv => whnf
                       first
                       | (with_reducible refine NextSt.mk ?_)
                       | (with_reducible refine OnBB.tt ?_))
              conv => whnf
              refine FinSt.ret (by (try dsimp only); (try simp only [List.cons_append, List.nil_append]); (repeat (first | with_reducible exact List.Sublist.refl _ | with_reducible exact List.nil_sublist _ | with_reducible apply List.Sublist.cons_cons | with_reducible apply sub_app | apply List.Sublist.cons_cons | apply sub_app | with_reducible apply List.Sublist.cons | with_reducible apply sub_skip))) ?_
              rfl
    · refine GSpec.enter (fn := Try.f10) Try.func10 rfl (by kernel_rfl) ?_
      repeat' (conv => whnf
               first
               | ((with_reducible refine CallSt.rd (f := 17) (X := .bool true) ?_ ?_); (· exact f17 _ _))
               | ((with_reducible refine CallSt.rd (f := 52) (X := .bool true) ?_ ?_); (· exact e52 _ (Rd.cons h1)))
               | (with_reducible refine NextSt.mk ?_)
               | (with_reducible refine OnBB.tt ?_)
               | (with_reducible refine OnBB.ff ?_)
               | ((with_reducible apply Cmp.yes); · first | omega | (with_reducible assumption) | (with_reducible rfl))
               | ((with_reducible apply LoadSt.boxAgg); · (repeat (first | exact List.Mem.head _ | with_reducible apply List.mem_append_right | with_reducible apply List.mem_cons_of_mem)))
               | ((with_reducible refine AllocSt.mk ?_); intro _b _hb _hbO))
      conv => whnf
      refine FinSt.ret (by (try dsimp only); (try simp only [List.cons_append, List.nil_append]); (repeat (first | with_reducible exact List.Sublist.refl _ | with_reducible exact List.nil_sublist _ | with_reducible apply List.Sublist.cons_cons | with_reducible apply sub_app | apply List.Sublist.cons_cons | apply sub_app | with_reducible apply List.Sublist.cons | with_reducible apply sub_skip))) ?_
      rfl
  · rw [decide_eq_false hf] at e52
    refine GSpec.enter (fn := Try.f10) Try.func10 rfl (by kernel_rfl) ?_
    repeat' (conv => whnf
             first
             | ((with_reducible refine CallSt.rd (f := 17) (X := .bool true) ?_ ?_); (· exact f17 _ _))
             | ((with_reducible refine CallSt.rd (f := 52) (X := .bool false) ?_ ?_); (· exact e52 _ (Rd.cons h1)))
             | (with_reducible refine NextSt.mk ?_)
             | (with_reducible refine OnBB.tt ?_)
             | (with_reducible refine OnBB.ff ?_)
             | ((with_reducible apply LoadSt.boxAgg); · (repeat (first | exact List.Mem.head _ | with_reducible apply List.mem_append_right | with_reducible apply List.mem_cons_of_mem)))
             | ((with_reducible refine AllocSt.mk ?_); intro _b _hb _hbO))
    conv => whnf
    refine FinSt.ret (by (try dsimp only); (try simp only [List.cons_append, List.nil_append]); (repeat (first | with_reducible exact List.Sublist.refl _ | with_reducible exact List.nil_sublist _ | with_reducible apply List.Sublist.cons_cons | with_reducible apply sub_app | apply List.Sublist.cons_cons | apply sub_app | with_reducible apply List.Sublist.cons | with_reducible apply sub_skip))) ?_
    rfl
end Go.Proofs.Ytlbmlimaobkhpaa
/- What a number of 32 bits reads as. -/
namespace Go.Proofs.Ytlbmlimaobkhpaa
open Go Go.Gv
set_option maxRecDepth 100000
theorem u88 : Try.prog.underlying 88 = some (.int .u32) := by kernel_rfl
end Go.Proofs.Ytlbmlimaobkhpaa
