/- Functions of the program: what is told. -/
import Derived.Test.YtaahjlhfmkjefaaGreatDoorMa
set_option linter.unusedVariables false
set_option linter.unusedSimpArgs false
set_option linter.unusedSectionVars false
/- Functions of the program and of the reference: cases checked. -/
namespace Go.Proofs.YtaahjlhfmkjefaaGreatDoor
open Go Go.Gv
set_option maxRecDepth 100000
set_option maxHeartbeats 8000000
set_option linter.unusedSimpArgs false
set_option linter.unusedVariables false
theorem cnt2_take {l : List Int} {i : Nat} (h : i < l.length) : cnt2 (l.take (i + 1)) = cnt2 (l.take i) + if l.getD i 0 = 2 then 1 else 0 := by
  unfold cnt2
  rw [List.take_add_one, List.getElem?_eq_getElem h, List.countP_append, List.getD_eq_getElem?_getD, List.getElem?_eq_getElem h]
  simp
theorem cnt2_le (l : List Int) : cnt2 l ≤ l.length := List.countP_le_length
theorem f70 (p : Pl) (l : List Int) (a a2 : Option Addr) (c c2 : Nat) (hp : pOk p) (hll : l.length ≤ 9223372036854775807) (h : View) (O : Hp) (hr : Rd h O a (p.log.flatMap shV)) (hr2 : Rd h O a2 (l.map zI)) :
    GSpec Tryz.prog 45 [.agg ⟨plV p a c⟩, .slice a2 l.length c2] h O (Ret O (.bool (decide (caseOk p l)))) := by
  have hl := hp.1.2.2.2.2.2.2
  have e73 := fun i hi h O hr => f73 p a c i hp hi h O hr
  show GSpec Tryz.prog 45 [.agg ⟨[.int .i64 p.no, .int .i64 p.cell, .int .i64 p.noise, .int .i64 p.slab, .int .i64 p.jump, .int .i64 p.faults, .slice a p.log.length c]⟩, _] h O _
  by_cases hlen : l.length = p.log.length
  · refine GSpec.enter (fn := Tryz.f45) Tryz.func45 rfl (by kernel_rfl) ?_
    repeat' (conv => whnf
             first
             | (with_reducible refine NextSt.mk ?_)
             | (with_reducible refine OnBB.ff ?_)
             | ((with_reducible apply Cmp.no); · first | omega | (with_reducible assumption))
             | ((with_reducible apply LoadSt.box); · (repeat (first | exact List.Mem.head _ | with_reducible apply List.mem_append_right | with_reducible apply List.mem_cons_of_mem)))
             | ((with_reducible refine AllocSt.mk ?_); intro _b _hb _hbO))
    obtain ⟨bx, hbx⟩ : ∃ x, x = _b := ⟨_, rfl⟩
    subst hbx
    refine LoopSt.fix [4, 5, 6, 7, 17, 18, 19, 20, 21, 22, 23, 24, 25, 26, 27, 28, 29, 30, 31, 32, 33, 34, 35, 36, 37, 38, 39, 40, 41, 42, 43, 44, 45, 46, 47, 48, 49, 50, 51, 52, 53, 54, 55, 56, 57, 58, 59, 60] (fun (i : Nat) => [(5, iN (cnt2 (l.take i))), (17, iN i)]) (fun _ => _) (fun i => i ≤ l.length ∧ ∀ j < i, stepOk p l j) (fun i => l.length - i) (0) _ (Wk.refl _ _) (rfl) ?_ ?_ ?_
    · repeat' (first | exact True.intro | refine And.intro ?_ ?_ | rfl | exact congrArg (Value.int _) (by omega) | exact congrArg (fun n => Value.slice _ n _) (by (try dsimp only); omega))
    · exact ⟨Nat.zero_le _, fun j hj => by omega⟩
    · rintro i d ⟨hi, hall⟩
      by_cases hil : i < l.length
      · have hct := cnt2_take hil
        have hc0 := cnt2_le (l.take i)
        rw [List.length_take] at hc0
        have hnext : stepOk p l i → ∀ j < i + 1, stepOk p l j := fun hc j hj => by
          by_cases e : j = i
          · rw [e]; exact hc
          · exact hall j (by omega)
        by_cases hc : stepOk p l i
        · obtain ⟨⟨c1, c2⟩, c3, c4⟩ := id hc
          by_cases h2 : l.getD i 0 = 2
          · rw [if_pos h2] at hct
            by_cases h0 : 0 < i
            · by_cases he : l.getD i 0 = l.getD (i - 1) 0
              · repeat' (conv => whnf
                         first
                         | ((with_reducible apply LoadSt.rdZ); (· (repeat (first | with_reducible assumption | (with_reducible apply Buf.rd; with_reducible assumption) | (with_reducible apply Rd.appL; with_reducible assumption) | (with_reducible apply Rd.appL; with_reducible apply Buf.rd; with_reducible assumption) | (with_reducible apply Rd.ofH; with_reducible assumption) | (with_reducible apply Rd.ofH1; with_reducible assumption) | with_reducible apply Rd.cons | with_reducible apply Rd.appR))); · (first | omega | (simp only [List.length_map, List.length_append, List.length_cons, List.length_nil, List.length_take, List.length_drop, List.length_replicate, List.length_set] at *; omega)))
                         | (with_reducible refine NextSt.mk ?_)
                         | (with_reducible refine OnBB.tt ?_)
                         | (with_reducible refine OnBB.ff ?_)
                         | ((with_reducible apply NW.addN); (· first | with_reducible rfl | exact natL _); (· first | with_reducible rfl | exact natL _); (· omega))
                         | ((with_reducible apply NW.subN); (· first | with_reducible rfl | exact natL _); (· first | with_reducible rfl | exact natL _); (· omega))
                         | ((with_reducible apply Cmp.yes); · first | omega | (with_reducible assumption) | (with_reducible rfl))
                         | ((with_reducible apply Cmp.no); · first | omega | (with_reducible assumption))
                         | ((with_reducible apply IdxSl.rd1); (· with_reducible assumption); (· rfl); (· first | with_reducible rfl | exact natL _); (· (first | omega | (simp only [List.length_map, List.length_append, List.length_cons, List.length_nil, List.length_take, List.length_drop, List.length_replicate, List.length_set] at *; omega))); · (first | omega | (simp only [List.length_map, List.length_append, List.length_cons, List.length_nil, List.length_take, List.length_drop, List.length_replicate, List.length_set] at *; omega))))
                refine RoundFix.mk (i + 1) ?_ ?_ _ rfl (Wk.drop (by (try dsimp only); (try simp only [List.cons_append, List.nil_append]); (repeat (first | with_reducible exact List.Sublist.refl _ | with_reducible exact List.nil_sublist _ | with_reducible apply List.Sublist.cons_cons | with_reducible apply sub_app | apply List.Sublist.cons_cons | apply sub_app | with_reducible apply List.Sublist.cons | with_reducible apply sub_skip)))) ?_
                · omega
                · repeat' (first | exact True.intro | refine And.intro ?_ ?_ | rfl | exact congrArg (Value.int _) (by omega) | exact congrArg (fun n => Value.slice _ n _) (by (try dsimp only); omega))
                · exact ⟨by omega, hnext hc⟩
              · have e73' := e73 (i - 1) (by omega)
                rw [decide_eq_true (c4 h0 he)] at e73'
                repeat' (conv => whnf
                         first
                         | (((with_reducible refine CallSt.rd (f := 67) (X := .bool true) ?_ ?_); (· exact e73' _ _ (Rd.cons hr))))
                         | ((with_reducible apply LoadSt.rdZ); (· (repeat (first | with_reducible assumption | (with_reducible apply Buf.rd; with_reducible assumption) | (with_reducible apply Rd.appL; with_reducible assumption) | (with_reducible apply Rd.appL; with_reducible apply Buf.rd; with_reducible assumption) | (with_reducible apply Rd.ofH; with_reducible assumption) | (with_reducible apply Rd.ofH1; with_reducible assumption) | with_reducible apply Rd.cons | with_reducible apply Rd.appR))); · (first | omega | (simp only [List.length_map, List.length_append, List.length_cons, List.length_nil, List.length_take, List.length_drop, List.length_replicate, List.length_set] at *; omega)))
                         | (with_reducible refine NextSt.mk ?_)
                         | (with_reducible refine OnBB.tt ?_)
                         | (with_reducible refine OnBB.ff ?_)
                         | ((with_reducible apply NW.addN); (· first | with_reducible rfl | exact natL _); (· first | with_reducible rfl | exact natL _); (· omega))
                         | ((with_reducible apply NW.subN); (· first | with_reducible rfl | exact natL _); (· first | with_reducible rfl | exact natL _); (· omega))
                         | ((with_reducible apply Cmp.yes); · first | omega | (with_reducible assumption) | (with_reducible rfl))
                         | ((with_reducible apply Cmp.no); · first | omega | (with_reducible assumption))
                         | ((with_reducible apply LoadSt.boxAgg); · (repeat (first | exact List.Mem.head _ | with_reducible apply List.mem_append_right | with_reducible apply List.mem_cons_of_mem)))
                         | ((with_reducible apply IdxSl.rd1); (· with_reducible assumption); (· rfl); (· first | with_reducible rfl | exact natL _); (· (first | omega | (simp only [List.length_map, List.length_append, List.length_cons, List.length_nil, List.length_take, List.length_drop, List.length_replicate, List.length_set] at *; omega))); · (first | omega | (simp only [List.length_map, List.length_append, List.length_cons, List.length_nil, List.length_take, List.length_drop, List.length_replicate, List.length_set] at *; omega))))
                refine RoundFix.mk (i + 1) ?_ ?_ _ rfl (Wk.drop (by (try dsimp only); (try simp only [List.cons_append, List.nil_append]); (repeat (first | with_reducible exact List.Sublist.refl _ | with_reducible exact List.nil_sublist _ | with_reducible apply List.Sublist.cons_cons | with_reducible apply sub_app | apply List.Sublist.cons_cons | apply sub_app | with_reducible apply List.Sublist.cons | with_reducible apply sub_skip)))) ?_
                · omega
                · repeat' (first | exact True.intro | refine And.intro ?_ ?_ | rfl | exact congrArg (Value.int _) (by omega) | exact congrArg (fun n => Value.slice _ n _) (by (try dsimp only); omega))
                · exact ⟨by omega, hnext hc⟩
            · have h00 : i = 0 := by omega
              subst h00
              exact absurd h2 (c3 rfl)
          · rw [if_neg h2] at hct
            by_cases h0 : 0 < i
            · by_cases he : l.getD i 0 = l.getD (i - 1) 0
              · repeat' (conv => whnf
                         first
                         | ((with_reducible apply LoadSt.rdZ); (· (repeat (first | with_reducible assumption | (with_reducible apply Buf.rd; with_reducible assumption) | (with_reducible apply Rd.appL; with_reducible assumption) | (with_reducible apply Rd.appL; with_reducible apply Buf.rd; with_reducible assumption) | (with_reducible apply Rd.ofH; with_reducible assumption) | (with_reducible apply Rd.ofH1; with_reducible assumption) | with_reducible apply Rd.cons | with_reducible apply Rd.appR))); · (first | omega | (simp only [List.length_map, List.length_append, List.length_cons, List.length_nil, List.length_take, List.length_drop, List.length_replicate, List.length_set] at *; omega)))
                         | (with_reducible refine NextSt.mk ?_)
                         | (with_reducible refine OnBB.tt ?_)
                         | (with_reducible refine OnBB.ff ?_)
                         | ((with_reducible apply NW.addN); (· first | with_reducible rfl | exact natL _); (· first | with_reducible rfl | exact natL _); (· omega))
                         | ((with_reducible apply NW.subN); (· first | with_reducible rfl | exact natL _); (· first | with_reducible rfl | exact natL _); (· omega))
                         | ((with_reducible apply Cmp.yes); · first | omega | (with_reducible assumption) | (with_reducible rfl))
                         | ((with_reducible apply Cmp.no); · first | omega | (with_reducible assumption))
                         | ((with_reducible apply IdxSl.rd1); (· with_reducible assumption); (· rfl); (· first | with_reducible rfl | exact natL _); (· (first | omega | (simp only [List.length_map, List.length_append, List.length_cons, List.length_nil, List.length_take, List.length_drop, List.length_replicate, List.length_set] at *; omega))); · (first | omega | (simp only [List.length_map, List.length_append, List.length_cons, List.length_nil, List.length_take, List.length_drop, List.length_replicate, List.length_set] at *; omega))))
                refine RoundFix.mk (i + 1) ?_ ?_ _ rfl (Wk.drop (by (try dsimp only); (try simp only [List.cons_append, List.nil_append]); (repeat (first | with_reducible exact List.Sublist.refl _ | with_reducible exact List.nil_sublist _ | with_reducible apply List.Sublist.cons_cons | with_reducible apply sub_app | apply List.Sublist.cons_cons | apply sub_app | with_reducible apply List.Sublist.cons | with_reducible apply sub_skip)))) ?_
                · omega
                · repeat' (first | exact True.intro | refine And.intro ?_ ?_ | rfl | exact congrArg (Value.int _) (by omega) | exact congrArg (fun n => Value.slice _ n _) (by (try dsimp only); omega))
                · exact ⟨by omega, hnext hc⟩
              · have e73' := e73 (i - 1) (by omega)
                rw [decide_eq_true (c4 h0 he)] at e73'
                repeat' (conv => whnf
                         first
                         | (((with_reducible refine CallSt.rd (f := 67) (X := .bool true) ?_ ?_); (· exact e73' _ _ (Rd.cons hr))))
                         | ((with_reducible apply LoadSt.rdZ); (· (repeat (first | with_reducible assumption | (with_reducible apply Buf.rd; with_reducible assumption) | (with_reducible apply Rd.appL; with_reducible assumption) | (with_reducible apply Rd.appL; with_reducible apply Buf.rd; with_reducible assumption) | (with_reducible apply Rd.ofH; with_reducible assumption) | (with_reducible apply Rd.ofH1; with_reducible assumption) | with_reducible apply Rd.cons | with_reducible apply Rd.appR))); · (first | omega | (simp only [List.length_map, List.length_append, List.length_cons, List.length_nil, List.length_take, List.length_drop, List.length_replicate, List.length_set] at *; omega)))
                         | (with_reducible refine NextSt.mk ?_)
                         | (with_reducible refine OnBB.tt ?_)
                         | (with_reducible refine OnBB.ff ?_)
                         | ((with_reducible apply NW.addN); (· first | with_reducible rfl | exact natL _); (· first | with_reducible rfl | exact natL _); (· omega))
                         | ((with_reducible apply NW.subN); (· first | with_reducible rfl | exact natL _); (· first | with_reducible rfl | exact natL _); (· omega))
                         | ((with_reducible apply Cmp.yes); · first | omega | (with_reducible assumption) | (with_reducible rfl))
                         | ((with_reducible apply Cmp.no); · first | omega | (with_reducible assumption))
                         | ((with_reducible apply LoadSt.boxAgg); · (repeat (first | exact List.Mem.head _ | with_reducible apply List.mem_append_right | with_reducible apply List.mem_cons_of_mem)))
                         | ((with_reducible apply IdxSl.rd1); (· with_reducible assumption); (· rfl); (· first | with_reducible rfl | exact natL _); (· (first | omega | (simp only [List.length_map, List.length_append, List.length_cons, List.length_nil, List.length_take, List.length_drop, List.length_replicate, List.length_set] at *; omega))); · (first | omega | (simp only [List.length_map, List.length_append, List.length_cons, List.length_nil, List.length_take, List.length_drop, List.length_replicate, List.length_set] at *; omega))))
                refine RoundFix.mk (i + 1) ?_ ?_ _ rfl (Wk.drop (by (try dsimp only); (try simp only [List.cons_append, List.nil_append]); (repeat (first | with_reducible exact List.Sublist.refl _ | with_reducible exact List.nil_sublist _ | with_reducible apply List.Sublist.cons_cons | with_reducible apply sub_app | apply List.Sublist.cons_cons | apply sub_app | with_reducible apply List.Sublist.cons | with_reducible apply sub_skip)))) ?_
                · omega
                · repeat' (first | exact True.intro | refine And.intro ?_ ?_ | rfl | exact congrArg (Value.int _) (by omega) | exact congrArg (fun n => Value.slice _ n _) (by (try dsimp only); omega))
                · exact ⟨by omega, hnext hc⟩
            · repeat' (conv => whnf
                       first
                       | ((with_reducible apply LoadSt.rdZ); (· (repeat (first | with_reducible assumption | (with_reducible apply Buf.rd; with_reducible assumption) | (with_reducible apply Rd.appL; with_reducible assumption) | (with_reducible apply Rd.appL; with_reducible apply Buf.rd; with_reducible assumption) | (with_reducible apply Rd.ofH; with_reducible assumption) | (with_reducible apply Rd.ofH1; with_reducible assumption) | with_reducible apply Rd.cons | with_reducible apply Rd.appR))); · (first | omega | (simp only [List.length_map, List.length_append, List.length_cons, List.length_nil, List.length_take, List.length_drop, List.length_replicate, List.length_set] at *; omega)))
                       | (with_reducible refine NextSt.mk ?_)
                       | (with_reducible refine OnBB.tt ?_)
                       | (with_reducible refine OnBB.ff ?_)
                       | ((with_reducible apply NW.addN); (· first | with_reducible rfl | exact natL _); (· first | with_reducible rfl | exact natL _); (· omega))
                       | ((with_reducible apply Cmp.yes); · first | omega | (with_reducible assumption) | (with_reducible rfl))
                       | ((with_reducible apply Cmp.no); · first | omega | (with_reducible assumption))
                       | ((with_reducible apply IdxSl.rd1); (· with_reducible assumption); (· rfl); (· first | with_reducible rfl | exact natL _); (· (first | omega | (simp only [List.length_map, List.length_append, List.length_cons, List.length_nil, List.length_take, List.length_drop, List.length_replicate, List.length_set] at *; omega))); · (first | omega | (simp only [List.length_map, List.length_append, List.length_cons, List.length_nil, List.length_take, List.length_drop, List.length_replicate, List.length_set] at *; omega))))
              refine RoundFix.mk (i + 1) ?_ ?_ _ rfl (Wk.drop (by (try dsimp only); (try simp only [List.cons_append, List.nil_append]); (repeat (first | with_reducible exact List.Sublist.refl _ | with_reducible exact List.nil_sublist _ | with_reducible apply List.Sublist.cons_cons | with_reducible apply sub_app | apply List.Sublist.cons_cons | apply sub_app | with_reducible apply List.Sublist.cons | with_reducible apply sub_skip)))) ?_
              · omega
              · repeat' (first | exact True.intro | refine And.intro ?_ ?_ | rfl | exact congrArg (Value.int _) (by omega) | exact congrArg (fun n => Value.slice _ n _) (by (try dsimp only); omega))
              · exact ⟨by omega, hnext hc⟩
        · rw [show decide (caseOk p l) = false from decide_eq_false fun hx => hc (hx.2.1 i hil)]
          by_cases h0 : 0 < i
          · have e73' := e73 (i - 1) (by omega)
            by_cases hs : shiftI p (i - 1)
            · rw [decide_eq_true hs] at e73'
              have hc : ¬ (0 ≤ l.getD i 0 ∧ l.getD i 0 ≤ 2) := fun hx => hc ⟨hx, fun e => by omega, fun _ _ => hs⟩
              repeat' (conv => whnf
                       first
                       | ((with_reducible apply LoadSt.rdZ); (· (repeat (first | with_reducible assumption | (with_reducible apply Buf.rd; with_reducible assumption) | (with_reducible apply Rd.appL; with_reducible assumption) | (with_reducible apply Rd.appL; with_reducible apply Buf.rd; with_reducible assumption) | (with_reducible apply Rd.ofH; with_reducible assumption) | (with_reducible apply Rd.ofH1; with_reducible assumption) | with_reducible apply Rd.cons | with_reducible apply Rd.appR))); · (first | omega | (simp only [List.length_map, List.length_append, List.length_cons, List.length_nil, List.length_take, List.length_drop, List.length_replicate, List.length_set] at *; omega)))
                       | (with_reducible refine NextSt.mk ?_)
                       | (with_reducible refine OnBB.tt ?_)
                       | (with_reducible refine OnBB.ff ?_)
                       | ((with_reducible apply Cmp.yes); · first | omega | (with_reducible assumption) | (with_reducible rfl))
                       | ((with_reducible apply IdxSl.rd1); (· with_reducible assumption); (· rfl); (· first | with_reducible rfl | exact natL _); (· (first | omega | (simp only [List.length_map, List.length_append, List.length_cons, List.length_nil, List.length_take, List.length_drop, List.length_replicate, List.length_set] at *; omega))); · (first | omega | (simp only [List.length_map, List.length_append, List.length_cons, List.length_nil, List.length_take, List.length_drop, List.length_replicate, List.length_set] at *; omega)))
                       | ((with_reducible refine Cmp.mk ?_ ?_) <;> intro _hc))
              all_goals try (conv => whnf)
              all_goals first | (refine FinSt.ret (by (try dsimp only); (try simp only [List.cons_append, List.nil_append]); (repeat (first | with_reducible exact List.Sublist.refl _ | with_reducible exact List.nil_sublist _ | with_reducible apply List.Sublist.cons_cons | with_reducible apply sub_app | apply List.Sublist.cons_cons | apply sub_app | with_reducible apply List.Sublist.cons | with_reducible apply sub_skip))) ?_; with_reducible rfl) | (exfalso; omega)
            · rw [decide_eq_false hs] at e73'
              have hc : ¬ ((0 ≤ l.getD i 0 ∧ l.getD i 0 ≤ 2) ∧ l.getD i 0 = l.getD (i - 1) 0) := fun hx => hc ⟨hx.1, fun e => by omega, fun _ hne => absurd hx.2 hne⟩
              repeat' (conv => whnf
                       first
                       | (((with_reducible refine CallSt.rd (f := 67) (X := .bool false) ?_ ?_); (· exact e73' _ _ (Rd.cons hr))))
                       | ((with_reducible apply LoadSt.rdZ); (· (repeat (first | with_reducible assumption | (with_reducible apply Buf.rd; with_reducible assumption) | (with_reducible apply Rd.appL; with_reducible assumption) | (with_reducible apply Rd.appL; with_reducible apply Buf.rd; with_reducible assumption) | (with_reducible apply Rd.ofH; with_reducible assumption) | (with_reducible apply Rd.ofH1; with_reducible assumption) | with_reducible apply Rd.cons | with_reducible apply Rd.appR))); · (first | omega | (simp only [List.length_map, List.length_append, List.length_cons, List.length_nil, List.length_take, List.length_drop, List.length_replicate, List.length_set] at *; omega)))
                       | (with_reducible refine NextSt.mk ?_)
                       | (with_reducible refine OnBB.tt ?_)
                       | (with_reducible refine OnBB.ff ?_)
                       | ((with_reducible apply NW.subN); (· first | with_reducible rfl | exact natL _); (· first | with_reducible rfl | exact natL _); (· omega))
                       | ((with_reducible apply Cmp.yes); · first | omega | (with_reducible assumption) | (with_reducible rfl))
                       | ((with_reducible apply Cmp.no); · first | omega | (with_reducible assumption))
                       | ((with_reducible apply LoadSt.boxAgg); · (repeat (first | exact List.Mem.head _ | with_reducible apply List.mem_append_right | with_reducible apply List.mem_cons_of_mem)))
                       | ((with_reducible apply IdxSl.rd1); (· with_reducible assumption); (· rfl); (· first | with_reducible rfl | exact natL _); (· (first | omega | (simp only [List.length_map, List.length_append, List.length_cons, List.length_nil, List.length_take, List.length_drop, List.length_replicate, List.length_set] at *; omega))); · (first | omega | (simp only [List.length_map, List.length_append, List.length_cons, List.length_nil, List.length_take, List.length_drop, List.length_replicate, List.length_set] at *; omega)))
                       | ((with_reducible refine Cmp.mk ?_ ?_) <;> intro _hc))
              all_goals try (conv => whnf)
              all_goals first | (refine FinSt.ret (by (try dsimp only); (try simp only [List.cons_append, List.nil_append]); (repeat (first | with_reducible exact List.Sublist.refl _ | with_reducible exact List.nil_sublist _ | with_reducible apply List.Sublist.cons_cons | with_reducible apply sub_app | apply List.Sublist.cons_cons | apply sub_app | with_reducible apply List.Sublist.cons | with_reducible apply sub_skip))) ?_; with_reducible rfl) | (exfalso; omega)
          · have h00 : i = 0 := by omega
            subst h00
            have hc : ¬ ((0 ≤ l.getD 0 0 ∧ l.getD 0 0 ≤ 2) ∧ l.getD 0 0 ≠ 2) := fun hx => hc ⟨hx.1, fun _ => hx.2, fun e => by omega⟩
            repeat' (conv => whnf
                     first
                     | ((with_reducible apply LoadSt.rdZ); (· (repeat (first | with_reducible assumption | (with_reducible apply Buf.rd; with_reducible assumption) | (with_reducible apply Rd.appL; with_reducible assumption) | (with_reducible apply Rd.appL; with_reducible apply Buf.rd; with_reducible assumption) | (with_reducible apply Rd.ofH; with_reducible assumption) | (with_reducible apply Rd.ofH1; with_reducible assumption) | with_reducible apply Rd.cons | with_reducible apply Rd.appR))); · (first | omega | (simp only [List.length_map, List.length_append, List.length_cons, List.length_nil, List.length_take, List.length_drop, List.length_replicate, List.length_set] at *; omega)))
                     | (with_reducible refine NextSt.mk ?_)
                     | (with_reducible refine OnBB.tt ?_)
                     | (with_reducible refine OnBB.ff ?_)
                     | ((with_reducible apply Cmp.yes); · first | omega | (with_reducible assumption) | (with_reducible rfl))
                     | ((with_reducible apply IdxSl.rd1); (· with_reducible assumption); (· rfl); (· first | with_reducible rfl | exact natL _); (· (first | omega | (simp only [List.length_map, List.length_append, List.length_cons, List.length_nil, List.length_take, List.length_drop, List.length_replicate, List.length_set] at *; omega))); · (first | omega | (simp only [List.length_map, List.length_append, List.length_cons, List.length_nil, List.length_take, List.length_drop, List.length_replicate, List.length_set] at *; omega)))
                     | ((with_reducible refine Cmp.mk ?_ ?_) <;> intro _hc))
            all_goals try (conv => whnf)
            all_goals first | (refine FinSt.ret (by (try dsimp only); (try simp only [List.cons_append, List.nil_append]); (repeat (first | with_reducible exact List.Sublist.refl _ | with_reducible exact List.nil_sublist _ | with_reducible apply List.Sublist.cons_cons | with_reducible apply sub_app | apply List.Sublist.cons_cons | apply sub_app | with_reducible apply List.Sublist.cons | with_reducible apply sub_skip))) ?_; with_reducible rfl) | (exfalso; omega)
      · have : i = l.length := by omega
        subst this
        rw [List.take_length]
        have hc0 := cnt2_le l
        by_cases hf : (cnt2 l : Int) ≤ p.faults
        · rw [show decide (caseOk p l) = true from decide_eq_true ⟨hlen, hall, hf⟩]
          repeat' (conv => whnf
                   first
                   | (with_reducible refine NextSt.mk ?_)
                   | (with_reducible refine OnBB.ff ?_)
                   | ((with_reducible apply Cmp.yes); · first | omega | (with_reducible assumption) | (with_reducible rfl))
                   | ((with_reducible apply Cmp.no); · first | omega | (with_reducible assumption))
                   | ((with_reducible apply LoadSt.box); · (repeat (first | exact List.Mem.head _ | with_reducible apply List.mem_append_right | with_reducible apply List.mem_cons_of_mem))))
          conv => whnf
          refine FinSt.ret (by (try dsimp only); (try simp only [List.cons_append, List.nil_append]); (repeat (first | with_reducible exact List.Sublist.refl _ | with_reducible exact List.nil_sublist _ | with_reducible apply List.Sublist.cons_cons | with_reducible apply sub_app | apply List.Sublist.cons_cons | apply sub_app | with_reducible apply List.Sublist.cons | with_reducible apply sub_skip))) ?_
          rfl
        · rw [show decide (caseOk p l) = false from decide_eq_false fun hx => hf hx.2.2]
          repeat' (conv => whnf
                   first
                   | (with_reducible refine NextSt.mk ?_)
                   | (with_reducible refine OnBB.ff ?_)
                   | ((with_reducible apply Cmp.no); · first | omega | (with_reducible assumption))
                   | ((with_reducible apply LoadSt.box); · (repeat (first | exact List.Mem.head _ | with_reducible apply List.mem_append_right | with_reducible apply List.mem_cons_of_mem))))
          conv => whnf
          refine FinSt.ret (by (try dsimp only); (try simp only [List.cons_append, List.nil_append]); (repeat (first | with_reducible exact List.Sublist.refl _ | with_reducible exact List.nil_sublist _ | with_reducible apply List.Sublist.cons_cons | with_reducible apply sub_app | apply List.Sublist.cons_cons | apply sub_app | with_reducible apply List.Sublist.cons | with_reducible apply sub_skip))) ?_
          rfl
  · rw [show decide (caseOk p l) = false from decide_eq_false fun hx => hlen hx.1]
    refine GSpec.enter (fn := Tryz.f45) Tryz.func45 rfl (by kernel_rfl) ?_
    repeat' (conv => whnf
             first
             | (with_reducible refine NextSt.mk ?_)
             | (with_reducible refine OnBB.tt ?_)
             | ((with_reducible apply Cmp.yes); · first | omega | (with_reducible assumption) | (with_reducible rfl))
             | ((with_reducible apply LoadSt.box); · (repeat (first | exact List.Mem.head _ | with_reducible apply List.mem_append_right | with_reducible apply List.mem_cons_of_mem)))
             | ((with_reducible refine AllocSt.mk ?_); intro _b _hb _hbO))
    conv => whnf
    refine FinSt.ret (by (try dsimp only); (try simp only [List.cons_append, List.nil_append]); (repeat (first | with_reducible exact List.Sublist.refl _ | with_reducible exact List.nil_sublist _ | with_reducible apply List.Sublist.cons_cons | with_reducible apply sub_app | apply List.Sublist.cons_cons | apply sub_app | with_reducible apply List.Sublist.cons | with_reducible apply sub_skip))) ?_
    rfl
end Go.Proofs.YtaahjlhfmkjefaaGreatDoor
/- Functions of the program and of the reference: cases checked; errors of arguments. -/
namespace Go.Proofs.YtaahjlhfmkjefaaGreatDoor
open Go Go.Gv
set_option maxRecDepth 100000
set_option maxHeartbeats 8000000
set_option linter.unusedSimpArgs false
set_option linter.unusedVariables false
theorem tell_ok {p : Pl} {w : List Sp} (h : tellV p w = 0) : pOk p ∧ wOk p w := by
  unfold tellV at h
  split at h
  · rename_i hp
    split at h
    · rename_i hw; exact ⟨hp, hw⟩
    · cases h
  · cases h
theorem f62 (p : Pl) (w : List Sp) (l : List Int) (a a2 a3 : Option Addr) (c c2 c3 : Nat) (hl : p.log.length ≤ 9223372036854775807) (hw : w.length ≤ 9223372036854775807) (hll : l.length ≤ 9223372036854775807) (h : View) (O : Hp) (hr : Rd h O a (p.log.flatMap shV)) (hr2 : Rd h O a2 (w.flatMap spV)) (hr3 : Rd h O a3 (l.map zI)) :
    GSpec Tryz.prog 29 [.agg ⟨plV p a c⟩, .slice a2 w.length c2, .slice a3 l.length c3] h O (Ret O (.int .i64 (toldV p w l))) := by
  have e58 := fun O hr hr2 => f58 p w a a2 c c2 hl hw h O hr hr2
  by_cases ht : tellV p w = 0
  · rw [ht] at e58
    obtain ⟨hp, -⟩ := tell_ok ht
    have e70 := fun O hr hr2 => f70 p l a a3 c c3 hp hll h O hr hr2
    rw [show toldV p w l = if caseOk p l then 0 else 31 from if_neg (fun hx => hx ht)]
    by_cases hc : caseOk p l
    · rw [if_pos hc]
      rw [decide_eq_true hc] at e70
      refine GSpec.enter (fn := Tryz.f29) Tryz.func29 rfl (by kernel_rfl) ?_
      repeat' (conv => whnf
               first
               | ((with_reducible refine CallSt.rd (f := 32) (X := .int .i64 0) ?_ ?_); (· exact e58 _ (Rd.cons hr) (Rd.cons hr2)))
               | ((with_reducible refine CallSt.rd (f := 45) (X := .bool true) ?_ ?_); (· exact e70 _ (Rd.cons hr) (Rd.cons hr3)))
               | (with_reducible refine NextSt.mk ?_)
               | (with_reducible refine OnBB.tt ?_)
               | (with_reducible refine OnBB.ff ?_)
               | ((with_reducible apply Cmp.no); · first | omega | (with_reducible assumption))
               | ((with_reducible apply LoadSt.boxAgg); · (repeat (first | exact List.Mem.head _ | with_reducible apply List.mem_append_right | with_reducible apply List.mem_cons_of_mem)))
               | ((with_reducible refine AllocSt.mk ?_); intro _b _hb _hbO))
      conv => whnf
      refine FinSt.ret (by (try dsimp only); (try simp only [List.cons_append, List.nil_append]); (repeat (first | with_reducible exact List.Sublist.refl _ | with_reducible exact List.nil_sublist _ | with_reducible apply List.Sublist.cons_cons | with_reducible apply sub_app | apply List.Sublist.cons_cons | apply sub_app | with_reducible apply List.Sublist.cons | with_reducible apply sub_skip))) ?_
      rfl
    · rw [if_neg hc]
      rw [decide_eq_false hc] at e70
      refine GSpec.enter (fn := Tryz.f29) Tryz.func29 rfl (by kernel_rfl) ?_
      repeat' (conv => whnf
               first
               | ((with_reducible refine CallSt.rd (f := 32) (X := .int .i64 0) ?_ ?_); (· exact e58 _ (Rd.cons hr) (Rd.cons hr2)))
               | ((with_reducible refine CallSt.rd (f := 45) (X := .bool false) ?_ ?_); (· exact e70 _ (Rd.cons hr) (Rd.cons hr3)))
               | (with_reducible refine NextSt.mk ?_)
               | (with_reducible refine OnBB.tt ?_)
               | (with_reducible refine OnBB.ff ?_)
               | ((with_reducible apply Cmp.no); · first | omega | (with_reducible assumption))
               | ((with_reducible apply LoadSt.boxAgg); · (repeat (first | exact List.Mem.head _ | with_reducible apply List.mem_append_right | with_reducible apply List.mem_cons_of_mem)))
               | ((with_reducible refine AllocSt.mk ?_); intro _b _hb _hbO))
      conv => whnf
      refine FinSt.ret (by (try dsimp only); (try simp only [List.cons_append, List.nil_append]); (repeat (first | with_reducible exact List.Sublist.refl _ | with_reducible exact List.nil_sublist _ | with_reducible apply List.Sublist.cons_cons | with_reducible apply sub_app | apply List.Sublist.cons_cons | apply sub_app | with_reducible apply List.Sublist.cons | with_reducible apply sub_skip))) ?_
      rfl
  · rw [show toldV p w l = tellV p w from if_pos ht]
    refine GSpec.enter (fn := Tryz.f29) Tryz.func29 rfl (by kernel_rfl) ?_
    repeat' (conv => whnf
             first
             | ((with_reducible refine CallSt.rd (f := 32) (X := .int .i64 (tellV p w)) ?_ ?_); (· exact e58 _ (Rd.cons hr) (Rd.cons hr2)))
             | (((with_reducible apply Cmp.yes); · exact ht))
             | (with_reducible refine NextSt.mk ?_)
             | (with_reducible refine OnBB.tt ?_)
             | ((with_reducible apply LoadSt.boxAgg); · (repeat (first | exact List.Mem.head _ | with_reducible apply List.mem_append_right | with_reducible apply List.mem_cons_of_mem)))
             | ((with_reducible refine AllocSt.mk ?_); intro _b _hb _hbO))
    conv => whnf
    refine FinSt.ret (by (try dsimp only); (try simp only [List.cons_append, List.nil_append]); (repeat (first | with_reducible exact List.Sublist.refl _ | with_reducible exact List.nil_sublist _ | with_reducible apply List.Sublist.cons_cons | with_reducible apply sub_app | apply List.Sublist.cons_cons | apply sub_app | with_reducible apply List.Sublist.cons | with_reducible apply sub_skip))) ?_
    rfl
end Go.Proofs.YtaahjlhfmkjefaaGreatDoor
/- Functions of the program and of the reference: what two entries tell against each other. -/
namespace Go.Proofs.YtaahjlhfmkjefaaGreatDoor
open Go Go.Gv
set_option maxRecDepth 100000
set_option maxHeartbeats 8000000
set_option linter.unusedSimpArgs false
set_option linter.unusedVariables false
theorem wOk_at {p : Pl} {w : List Sp} (h : wOk p w) (i : Nat) : (w.getD i default).lo ≤ (w.getD i default).hi ∧ -65536 ≤ (w.getD i default).lo ∧ (w.getD i default).hi ≤ 65536 := by
  by_cases hi : i < w.length
  · exact h.2 i hi
  · rw [List.getD_eq_getElem?_getD, List.getElem?_eq_none (by omega)]
    decide
theorem sumW_bd {p : Pl} {w : List Sp} (h : wOk p w) (i : Nat) (x : Sp) : ∀ n : Nat, (sumW w i n x).lo ≤ x.lo + 65536 * n ∧ x.lo - 65536 * n ≤ (sumW w i n x).lo ∧ (sumW w i n x).hi ≤ x.hi + 65536 * n ∧ x.hi - 65536 * n ≤ (sumW w i n x).hi
  | 0 => by simp [sumW]
  | n + 1 => by
    have h1 := sumW_bd h i x n
    have h2 := wOk_at h (i + n)
    simp only [sumW, addS]
    omega
theorem f68 (p : Pl) (w : List Sp) (l : List Int) (a a2 a3 : Option Addr) (c c2 c3 i k : Nat) (hp : pOk p) (hw : wOk p w) (hc : l.length = p.log.length) (hik : i ≤ k) (hk : k < l.length) (h : View) (O : Hp) (hr : Rd h O a (p.log.flatMap shV)) (hr2 : Rd h O a2 (w.flatMap spV)) (hr3 : Rd h O a3 (l.map zI)) :
    GSpec Tryz.prog 31 [.agg ⟨plV p a c ++ [.slice a2 w.length c2]⟩, .slice a3 l.length c3, iN i, iN k] h O (Ret O (.bool (decide (contra p w l i k)))) := by
  have hl := hp.1.2.2.2.2.2.2
  have e72 := fun i hi h O hr => f72 p a c i (l.getD i 0) hp hi h O hr
  have hwl := hw.1
  have hin := loads_in p i (l.getD i 0) (hp.2 i (by omega)).2.1 hp.1.2.2.1.1 hp.1.2.2.2.1.1
  show GSpec Tryz.prog 31 [.agg ⟨[.int .i64 p.no, .int .i64 p.cell, .int .i64 p.noise, .int .i64 p.slab, .int .i64 p.jump, .int .i64 p.faults, .slice a p.log.length c, .slice a2 w.length c2]⟩, _, _, _] h O _
  have e72i := e72 i (by omega)
  have e72k := e72 k (by omega)
  generalize hx : loadsI p i (l.getD i 0) = x at e72i hin
  generalize hy : loadsI p k (l.getD k 0) = y at e72k
  refine GSpec.enter (fn := Tryz.f31) Tryz.func31 rfl (by kernel_rfl) ?_
  repeat' (conv => whnf
           first
           | (((with_reducible refine DrawSt.walk2 [0, 1, 2, 3, 4, 5, 6] 7 8 [9] mixed ?_ ?_); · decide +kernel))
           | ((with_reducible apply And.intro))
           | (((with_reducible refine CallG.rd (f := 46) (X := .agg ⟨spV x⟩) ?_ ?_); (· first | exact e72i _ _ (Rd.cons hr) | exact e72i _ _ (Rd.cons (Rd.cons hr)))))
           | ((with_reducible apply LoadSt.rdZ); (· (repeat (first | with_reducible assumption | (with_reducible apply Buf.rd; with_reducible assumption) | (with_reducible apply Rd.appL; with_reducible assumption) | (with_reducible apply Rd.appL; with_reducible apply Buf.rd; with_reducible assumption) | (with_reducible apply Rd.ofH; with_reducible assumption) | (with_reducible apply Rd.ofH1; with_reducible assumption) | with_reducible apply Rd.cons | with_reducible apply Rd.appR))); · (first | omega | (simp only [List.length_map, List.length_append, List.length_cons, List.length_nil, List.length_take, List.length_drop, List.length_replicate, List.length_set] at *; omega)))
           | (with_reducible refine NextSt.mk ?_)
           | ((with_reducible apply LoadSt.boxAgg); · (repeat (first | exact List.Mem.head _ | with_reducible apply List.mem_append_right | with_reducible apply List.mem_cons_of_mem)))
           | ((with_reducible refine AllocSt.mk ?_); intro _b _hb _hbO)
           | ((with_reducible apply StoreSt.box); (· (repeat (first | exact Upd.hd | apply Upd.tl | apply Upd.app))); (· rfl); (· rfl); (· rfl))
           | ((with_reducible apply IdxSl.rd1); (· with_reducible assumption); (· rfl); (· first | with_reducible rfl | exact natL _); (· (first | omega | (simp only [List.length_map, List.length_append, List.length_cons, List.length_nil, List.length_take, List.length_drop, List.length_replicate, List.length_set] at *; omega))); · (first | omega | (simp only [List.length_map, List.length_append, List.length_cons, List.length_nil, List.length_take, List.length_drop, List.length_replicate, List.length_set] at *; omega))))
  all_goals
    rename_i bx _ _
    refine LoopSt.fix [10, 20, 21, 22, 23, 24, 25, 26, 27, 28, 29, 30, 31] (fun (n : Nat) => [(10, iN (i + n))]) (fun n => (_b, .cells ⟨spV (sumW w i n x)⟩ 50 (0, 0)) :: (bx, .cells ⟨[.int .i64 p.no, .int .i64 p.cell, .int .i64 p.noise, .int .i64 p.slab, .int .i64 p.jump, .int .i64 p.faults, .slice a p.log.length c, .slice a2 w.length c2]⟩ 81 (0, 0)) :: O) (fun n => i + n ≤ k) (fun n => k - i - n) (0) _ (Wk.refl _ _) (rfl) ?_ ?_ ?_
    · repeat' (first | exact True.intro | refine And.intro ?_ ?_ | rfl | exact congrArg (Value.int _) (by omega) | exact congrArg (fun n => Value.slice _ n _) (by (try dsimp only); omega))
    · exact hik
    · rintro n d hn
      have hb := sumW_bd hw i x n
      by_cases hnk : i + n < k
      · have hwa := wOk_at hw (i + n)
        have hn1 : i + n < w.length := by omega
        repeat' (conv => whnf
                 first
                 | ((with_reducible refine DrawSt.walk [0, 1, 2, 3, 4, 5, 6, 7] mixed ?_ ?_); · decide +kernel)
                 | ((with_reducible apply CallG.rd (f := 48)); · (apply GSpec.cast (sp := f82 _ _ _ _ ?_ ?_ _ _); (· (repeat' (first | with_reducible rfl | refine congrArg₂ List.cons ?_ ?_ | exact iN_lit _ | rfl))); all_goals (first | with_reducible assumption | omega | ((repeat (first | with_reducible assumption | with_reducible apply xor_lt | with_reducible apply mul_lt | with_reducible exact pw_lt _ | with_reducible exact inv_lt _ | omega)); done) | ((repeat (first | with_reducible assumption | (with_reducible apply Buf.rd; with_reducible assumption) | (with_reducible apply Rd.appL; with_reducible assumption) | (with_reducible apply Rd.appL; with_reducible apply Buf.rd; with_reducible assumption) | (with_reducible apply Rd.ofH; with_reducible assumption) | (with_reducible apply Rd.ofH1; with_reducible assumption) | with_reducible apply Rd.cons | with_reducible apply Rd.appR)); done) | decide)))
                 | ((with_reducible apply LoadSt.rdg (g := spV) (s := 2)); (· rfl); (· (repeat (first | with_reducible assumption | (with_reducible apply Buf.rd; with_reducible assumption) | (with_reducible apply Rd.appL; with_reducible assumption) | (with_reducible apply Rd.appL; with_reducible apply Buf.rd; with_reducible assumption) | (with_reducible apply Rd.ofH; with_reducible assumption) | (with_reducible apply Rd.ofH1; with_reducible assumption) | with_reducible apply Rd.cons | with_reducible apply Rd.appR))); (· exact fun _ => rfl); (· decide); · (first | omega | (simp only [List.length_map, List.length_append, List.length_cons, List.length_nil, List.length_take, List.length_drop, List.length_replicate, List.length_set] at *; omega)))
                 | ((with_reducible apply IdxSl.rdg (g := spV) (s := 2)); (· with_reducible assumption); (· exact fun _ => rfl); (· decide); (· rfl); (· first | with_reducible rfl | exact natL _); (· (first | omega | (simp only [List.length_map, List.length_append, List.length_cons, List.length_nil, List.length_take, List.length_drop, List.length_replicate, List.length_set] at *; omega))); · (first | omega | (simp only [List.length_map, List.length_append, List.length_cons, List.length_nil, List.length_take, List.length_drop, List.length_replicate, List.length_set] at *; omega)))
                 | (with_reducible refine NextSt.mk ?_)
                 | (with_reducible refine OnBB.tt ?_)
                 | ((with_reducible apply NW.addN); (· first | with_reducible rfl | exact natL _); (· first | with_reducible rfl | exact natL _); (· omega))
                 | ((with_reducible apply Cmp.yes); · first | omega | (with_reducible assumption) | (with_reducible rfl))
                 | ((with_reducible apply LoadSt.box); · (repeat (first | exact List.Mem.head _ | with_reducible apply List.mem_append_right | with_reducible apply List.mem_cons_of_mem)))
                 | ((with_reducible apply LoadSt.boxAgg); · (repeat (first | exact List.Mem.head _ | with_reducible apply List.mem_append_right | with_reducible apply List.mem_cons_of_mem)))
                 | ((with_reducible apply StoreSt.box); (· (repeat (first | exact Upd.hd | apply Upd.tl | apply Upd.app))); (· rfl); (· rfl); (· rfl)))
        refine RoundFix.mk (n + 1) ?_ ?_ _ rfl (Wk.drop (by (try dsimp only); (try simp only [List.cons_append, List.nil_append]); (repeat (first | with_reducible exact List.Sublist.refl _ | with_reducible exact List.nil_sublist _ | with_reducible apply List.Sublist.cons_cons | with_reducible apply sub_app | apply List.Sublist.cons_cons | apply sub_app | with_reducible apply List.Sublist.cons | with_reducible apply sub_skip)))) ?_
        · omega
        · repeat' (first | exact True.intro | refine And.intro ?_ ?_ | rfl | exact congrArg (Value.int _) (by omega) | exact congrArg (fun n => Value.slice _ n _) (by (try dsimp only); omega))
        · show i + (n + 1) ≤ k
          omega
      · have hnk' : k - i = n := by omega
        have hct : contra p w l i k ↔ ¬ full (meetS (sumW w i n x) y) := by
          unfold contra
          rw [hnk', hx, hy]
        simp only [full, meetS] at hct
        by_cases hf : min (sumW w i n x).hi y.hi < max (sumW w i n x).lo y.lo
        · rw [decide_eq_true (hct.2 (by omega))]
          repeat' (conv => whnf
                   first
                   | (((with_reducible refine CallG.rd (f := 46) (X := .agg ⟨spV y⟩) ?_ ?_); (· exact e72k _ _ (Rd.cons (Rd.cons hr)))))
                   | ((with_reducible refine DrawSt.walk [0, 1, 2, 3, 4, 5, 6, 7, 8, 9, 10, 11] mixed ?_ ?_); · decide +kernel)
                   | ((with_reducible apply CallG.rd (f := 47)); · (apply GSpec.cast (sp := f81 _ _ _ _ _ _); (· (repeat' (first | with_reducible rfl | refine congrArg₂ List.cons ?_ ?_ | exact iN_lit _ | rfl))); all_goals (first | with_reducible assumption | omega | ((repeat (first | with_reducible assumption | with_reducible apply xor_lt | with_reducible apply mul_lt | with_reducible exact pw_lt _ | with_reducible exact inv_lt _ | omega)); done) | ((repeat (first | with_reducible assumption | (with_reducible apply Buf.rd; with_reducible assumption) | (with_reducible apply Rd.appL; with_reducible assumption) | (with_reducible apply Rd.appL; with_reducible apply Buf.rd; with_reducible assumption) | (with_reducible apply Rd.ofH; with_reducible assumption) | (with_reducible apply Rd.ofH1; with_reducible assumption) | with_reducible apply Rd.cons | with_reducible apply Rd.appR)); done) | decide)))
                   | ((with_reducible apply CallG.decY (f := 49)); (· (apply GSpec.cast (sp := f91 _ _ _ _); (· (repeat' (first | with_reducible rfl | refine congrArg₂ List.cons ?_ ?_ | exact iN_lit _ | rfl))); all_goals (first | with_reducible assumption | omega | ((repeat (first | with_reducible assumption | with_reducible apply xor_lt | with_reducible apply mul_lt | with_reducible exact pw_lt _ | with_reducible exact inv_lt _ | omega)); done) | ((repeat (first | with_reducible assumption | (with_reducible apply Buf.rd; with_reducible assumption) | (with_reducible apply Rd.appL; with_reducible assumption) | (with_reducible apply Rd.appL; with_reducible apply Buf.rd; with_reducible assumption) | (with_reducible apply Rd.ofH; with_reducible assumption) | (with_reducible apply Rd.ofH1; with_reducible assumption) | with_reducible apply Rd.cons | with_reducible apply Rd.appR)); done) | decide))); · omega)
                   | ((with_reducible apply LoadSt.rdZ); (· (repeat (first | with_reducible assumption | (with_reducible apply Buf.rd; with_reducible assumption) | (with_reducible apply Rd.appL; with_reducible assumption) | (with_reducible apply Rd.appL; with_reducible apply Buf.rd; with_reducible assumption) | (with_reducible apply Rd.ofH; with_reducible assumption) | (with_reducible apply Rd.ofH1; with_reducible assumption) | with_reducible apply Rd.cons | with_reducible apply Rd.appR))); · (first | omega | (simp only [List.length_map, List.length_append, List.length_cons, List.length_nil, List.length_take, List.length_drop, List.length_replicate, List.length_set] at *; omega)))
                   | (with_reducible refine NextSt.mk ?_)
                   | (with_reducible refine OnBB.ff ?_)
                   | ((with_reducible apply Cmp.no); · first | omega | (with_reducible assumption))
                   | ((with_reducible apply LoadSt.boxAgg); · (repeat (first | exact List.Mem.head _ | with_reducible apply List.mem_append_right | with_reducible apply List.mem_cons_of_mem)))
                   | ((with_reducible apply IdxSl.rd1); (· with_reducible assumption); (· rfl); (· first | with_reducible rfl | exact natL _); (· (first | omega | (simp only [List.length_map, List.length_append, List.length_cons, List.length_nil, List.length_take, List.length_drop, List.length_replicate, List.length_set] at *; omega))); · (first | omega | (simp only [List.length_map, List.length_append, List.length_cons, List.length_nil, List.length_take, List.length_drop, List.length_replicate, List.length_set] at *; omega))))
          conv => whnf
          refine FinSt.ret (by (try dsimp only); (try simp only [List.cons_append, List.nil_append]); (repeat (first | with_reducible exact List.Sublist.refl _ | with_reducible exact List.nil_sublist _ | with_reducible apply List.Sublist.cons_cons | with_reducible apply sub_app | apply List.Sublist.cons_cons | apply sub_app | with_reducible apply List.Sublist.cons | with_reducible apply sub_skip))) ?_
          rfl
        · rw [decide_eq_false (fun hh => hct.1 hh (by omega))]
          repeat' (conv => whnf
                   first
                   | (((with_reducible refine CallG.rd (f := 46) (X := .agg ⟨spV y⟩) ?_ ?_); (· exact e72k _ _ (Rd.cons (Rd.cons hr)))))
                   | ((with_reducible refine DrawSt.walk [0, 1, 2, 3, 4, 5, 6, 7, 8, 9, 10, 11] mixed ?_ ?_); · decide +kernel)
                   | ((with_reducible apply CallG.rd (f := 47)); · (apply GSpec.cast (sp := f81 _ _ _ _ _ _); (· (repeat' (first | with_reducible rfl | refine congrArg₂ List.cons ?_ ?_ | exact iN_lit _ | rfl))); all_goals (first | with_reducible assumption | omega | ((repeat (first | with_reducible assumption | with_reducible apply xor_lt | with_reducible apply mul_lt | with_reducible exact pw_lt _ | with_reducible exact inv_lt _ | omega)); done) | ((repeat (first | with_reducible assumption | (with_reducible apply Buf.rd; with_reducible assumption) | (with_reducible apply Rd.appL; with_reducible assumption) | (with_reducible apply Rd.appL; with_reducible apply Buf.rd; with_reducible assumption) | (with_reducible apply Rd.ofH; with_reducible assumption) | (with_reducible apply Rd.ofH1; with_reducible assumption) | with_reducible apply Rd.cons | with_reducible apply Rd.appR)); done) | decide)))
                   | ((with_reducible apply CallG.decN (f := 49)); (· (apply GSpec.cast (sp := f91 _ _ _ _); (· (repeat' (first | with_reducible rfl | refine congrArg₂ List.cons ?_ ?_ | exact iN_lit _ | rfl))); all_goals (first | with_reducible assumption | omega | ((repeat (first | with_reducible assumption | with_reducible apply xor_lt | with_reducible apply mul_lt | with_reducible exact pw_lt _ | with_reducible exact inv_lt _ | omega)); done) | ((repeat (first | with_reducible assumption | (with_reducible apply Buf.rd; with_reducible assumption) | (with_reducible apply Rd.appL; with_reducible assumption) | (with_reducible apply Rd.appL; with_reducible apply Buf.rd; with_reducible assumption) | (with_reducible apply Rd.ofH; with_reducible assumption) | (with_reducible apply Rd.ofH1; with_reducible assumption) | with_reducible apply Rd.cons | with_reducible apply Rd.appR)); done) | decide))); · omega)
                   | ((with_reducible apply LoadSt.rdZ); (· (repeat (first | with_reducible assumption | (with_reducible apply Buf.rd; with_reducible assumption) | (with_reducible apply Rd.appL; with_reducible assumption) | (with_reducible apply Rd.appL; with_reducible apply Buf.rd; with_reducible assumption) | (with_reducible apply Rd.ofH; with_reducible assumption) | (with_reducible apply Rd.ofH1; with_reducible assumption) | with_reducible apply Rd.cons | with_reducible apply Rd.appR))); · (first | omega | (simp only [List.length_map, List.length_append, List.length_cons, List.length_nil, List.length_take, List.length_drop, List.length_replicate, List.length_set] at *; omega)))
                   | (with_reducible refine NextSt.mk ?_)
                   | (with_reducible refine OnBB.ff ?_)
                   | ((with_reducible apply Cmp.no); · first | omega | (with_reducible assumption))
                   | ((with_reducible apply LoadSt.boxAgg); · (repeat (first | exact List.Mem.head _ | with_reducible apply List.mem_append_right | with_reducible apply List.mem_cons_of_mem)))
                   | ((with_reducible apply IdxSl.rd1); (· with_reducible assumption); (· rfl); (· first | with_reducible rfl | exact natL _); (· (first | omega | (simp only [List.length_map, List.length_append, List.length_cons, List.length_nil, List.length_take, List.length_drop, List.length_replicate, List.length_set] at *; omega))); · (first | omega | (simp only [List.length_map, List.length_append, List.length_cons, List.length_nil, List.length_take, List.length_drop, List.length_replicate, List.length_set] at *; omega))))
          conv => whnf
          refine FinSt.ret (by (try dsimp only); (try simp only [List.cons_append, List.nil_append]); (repeat (first | with_reducible exact List.Sublist.refl _ | with_reducible exact List.nil_sublist _ | with_reducible apply List.Sublist.cons_cons | with_reducible apply sub_app | apply List.Sublist.cons_cons | apply sub_app | with_reducible apply List.Sublist.cons | with_reducible apply sub_skip))) ?_
          rfl
end Go.Proofs.YtaahjlhfmkjefaaGreatDoor
