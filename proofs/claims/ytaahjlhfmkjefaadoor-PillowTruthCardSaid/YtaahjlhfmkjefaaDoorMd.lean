/- Functions of the program: what refutes. -/
import Derived.Test.YtaahjlhfmkjefaaDoorMc
set_option linter.unusedVariables false
set_option linter.unusedSimpArgs false
set_option linter.unusedSectionVars false
/- Do two entries tell against each other: the check. -/
namespace Go.Proofs.YtaahjlhfmkjefaaDoor
open Go Go.Gv
set_option maxRecDepth 100000
set_option maxHeartbeats 8000000
set_option linter.unusedSimpArgs false
set_option linter.unusedVariables false
end Go.Proofs.YtaahjlhfmkjefaaDoor
/- Can the state change behind an entry. -/
namespace Go.Proofs.YtaahjlhfmkjefaaDoor
open Go Go.Gv
set_option maxRecDepth 100000
set_option maxHeartbeats 8000000
set_option linter.unusedSimpArgs false
set_option linter.unusedVariables false
end Go.Proofs.YtaahjlhfmkjefaaDoor
/- Are weights a witness of a case: the reference. -/
namespace Go.Proofs.YtaahjlhfmkjefaaDoor
open Go Go.Gv
set_option maxRecDepth 100000
set_option maxHeartbeats 8000000
set_option linter.unusedSimpArgs false
set_option linter.unusedVariables false
instance (v : Int) (x : Sp) : Decidable (inS v x) := by unfold inS; infer_instance
def witI (p : Pl) (w : List Sp) (l v : List Int) (i : Nat) : Prop := inS (v.getD i 0) (loadsI p i (l.getD i 0)) ∧ (0 < i → inS (v.getD i 0 - v.getD (i - 1) 0) (w.getD (i - 1) default))
instance (p : Pl) (w : List Sp) (l v : List Int) (i : Nat) : Decidable (witI p w l v i) := by unfold witI; infer_instance
def witV (p : Pl) (w : List Sp) (l v : List Int) : Int := if toldV p w l ≠ 0 then toldV p w l else if v.length = l.length ∧ ∀ i < l.length, witI p w l v i then 0 else 32
end Go.Proofs.YtaahjlhfmkjefaaDoor
/- Are weights a witness of a case: the program. -/
namespace Go.Proofs.YtaahjlhfmkjefaaDoor
open Go Go.Gv
set_option maxRecDepth 100000
set_option maxHeartbeats 8000000
set_option linter.unusedSimpArgs false
set_option linter.unusedVariables false
theorem f71 (n a b : Int) (h : View) (O : Hp) : GSpec Tryd.prog 71 [.int .i64 n, .agg ⟨[.int .i64 a, .int .i64 b]⟩] h O (Ret O (.bool (decide (a ≤ n ∧ n ≤ b)))) := by
  by_cases hn : a ≤ n ∧ n ≤ b
  · rw [decide_eq_true hn]
    refine GSpec.enter (fn := Tryd.f71) Tryd.func71 rfl (by kernel_rfl) ?_
    repeat' (conv => whnf
             first
             | (with_reducible refine NextSt.mk ?_)
             | (with_reducible refine OnBB.tt ?_)
             | ((with_reducible apply Cmp.yes); · first | omega | (with_reducible assumption) | (with_reducible rfl))
             | ((with_reducible apply LoadSt.box); · (repeat (first | exact List.Mem.head _ | with_reducible apply List.mem_append_right | with_reducible apply List.mem_cons_of_mem)))
             | ((with_reducible refine AllocSt.mk ?_); intro _b _hb _hbO))
    all_goals (conv => whnf)
    all_goals refine FinSt.ret (by (try dsimp only); (try simp only [List.cons_append, List.nil_append]); (repeat (first | with_reducible exact List.Sublist.refl _ | with_reducible exact List.nil_sublist _ | with_reducible apply List.Sublist.cons_cons | with_reducible apply sub_app | apply List.Sublist.cons_cons | apply sub_app | with_reducible apply List.Sublist.cons | with_reducible apply sub_skip))) ?_
    all_goals first | with_reducible rfl | (exfalso; omega)
  · rw [decide_eq_false hn]
    refine GSpec.enter (fn := Tryd.f71) Tryd.func71 rfl (by kernel_rfl) ?_
    repeat' (conv => whnf
             first
             | (with_reducible refine NextSt.mk ?_)
             | (with_reducible refine OnBB.tt ?_)
             | (with_reducible refine OnBB.ff ?_)
             | ((with_reducible apply Cmp.no); · first | omega | (with_reducible assumption))
             | ((with_reducible apply LoadSt.box); · (repeat (first | exact List.Mem.head _ | with_reducible apply List.mem_append_right | with_reducible apply List.mem_cons_of_mem)))
             | ((with_reducible refine AllocSt.mk ?_); intro _b _hb _hbO)
             | ((with_reducible refine Cmp.mk ?_ ?_) <;> intro _hc))
    all_goals (conv => whnf)
    all_goals refine FinSt.ret (by (try dsimp only); (try simp only [List.cons_append, List.nil_append]); (repeat (first | with_reducible exact List.Sublist.refl _ | with_reducible exact List.nil_sublist _ | with_reducible apply List.Sublist.cons_cons | with_reducible apply sub_app | apply List.Sublist.cons_cons | apply sub_app | with_reducible apply List.Sublist.cons | with_reducible apply sub_skip))) ?_
    all_goals first | with_reducible rfl | (exfalso; omega)
theorem f40 (p : Pl) (w : List Sp) (l v : List Int) (a a2 a3 a4 : Option Addr) (c c2 c3 c4 : Nat) (hl : p.log.length ≤ 9223372036854775807) (hw : w.length ≤ 9223372036854775807) (hll : l.length ≤ 9223372036854775807) (h : View) (O : Hp) (hr : Rd h O a (p.log.flatMap shV)) (hr2 : Rd h O a2 (w.flatMap spV)) (hr3 : Rd h O a3 (l.map zI)) (hr4 : Rd h O a4 (v.map zI)) :
    GSpec Tryd.prog 40 [.agg ⟨plV p a c⟩, .slice a2 w.length c2, .slice a3 l.length c3, .slice a4 v.length c4] h O (Ret O (.int .i64 (witV p w l v))) := by
  have e62 := fun O hr hr2 hr3 => f62 p w l a a2 a3 c c2 c3 hl hw hll h O hr hr2 hr3
  show GSpec Tryd.prog 40 [.agg ⟨[.int .i64 p.no, .int .i64 p.cell, .int .i64 p.noise, .int .i64 p.slab, .int .i64 p.jump, .int .i64 p.faults, .slice a p.log.length c]⟩, _, _, _] h O _
  by_cases ht : toldV p w l = 0
  · obtain ⟨hp, hwo, hc⟩ := told_ok ht
    rw [ht] at e62
    have hl32 := hp.1.2.2.2.2.2.2
    have hcl := hc.1
    have hwl := hwo.1
    have hno : ¬ (v.length = l.length ∧ ∀ i < l.length, witI p w l v i) → witV p w l v = 32 := fun hx => (if_neg (fun hx => hx ht)).trans (if_neg hx)
    by_cases hlen : v.length = l.length
    · refine GSpec.enter (fn := Tryd.f40) Tryd.func40 rfl (by kernel_rfl) ?_
      repeat' (conv => whnf
               first
               | (((with_reducible refine CallSt.rd (f := 62) (X := .int .i64 0) ?_ ?_); (· exact e62 _ (Rd.cons hr) (Rd.cons hr2) (Rd.cons hr3))))
               | (with_reducible refine NextSt.mk ?_)
               | (with_reducible refine OnBB.ff ?_)
               | ((with_reducible apply Cmp.no); · first | omega | (with_reducible assumption))
               | ((with_reducible apply LoadSt.boxAgg); · (repeat (first | exact List.Mem.head _ | with_reducible apply List.mem_append_right | with_reducible apply List.mem_cons_of_mem)))
               | ((with_reducible refine AllocSt.mk ?_); intro _b _hb _hbO))
      refine LoopSt.fix [8, 11, 12, 27, 28, 29, 30, 31, 32, 33, 34, 35, 36, 37, 38, 39, 40, 41, 42, 43, 44, 45, 46, 47, 48, 49, 50, 51, 52, 53, 54, 55, 56, 57, 58, 59, 60, 61, 62, 63, 64, 65] (fun (i : Nat) => [(27, iN i)]) (fun _ => _) (fun i => i ≤ l.length ∧ ∀ j < i, witI p w l v j) (fun i => l.length - i) (0) _ (Wk.refl _ _) (rfl) ?_ ?_ ?_
      · repeat' (first | exact True.intro | refine And.intro ?_ ?_ | rfl | exact congrArg (Value.int _) (by omega) | exact congrArg (fun n => Value.slice _ n _) (by (try dsimp only); omega))
      · exact ⟨Nat.zero_le _, fun j hj => by omega⟩
      · rintro i d ⟨hi, hall⟩
        by_cases hil : i < l.length
        · have e72i := fun O hr => f72 p a c i (l.getD i 0) hp (by omega) h O hr
          have hin := loads_in p i (l.getD i 0) (hp.2 i (by omega)).2.1 hp.1.2.2.1.1 hp.1.2.2.2.1.1
          have hwa := wOk_at hwo (i - 1)
          have hprev : 0 < i → 0 ≤ v.getD (i - 1) 0 ∧ v.getD (i - 1) 0 ≤ 65536 := fun h0 => by
            have h1 := (hall (i - 1) (by omega)).1
            have h2 := loads_in p (i - 1) (l.getD (i - 1) 0) (hp.2 (i - 1) (by omega)).2.1 hp.1.2.2.1.1 hp.1.2.2.2.1.1
            unfold inS at h1
            omega
          have hwit : witI p w l v i ↔ inS (v.getD i 0) (loadsI p i (l.getD i 0)) ∧ (0 < i → inS (v.getD i 0 - v.getD (i - 1) 0) (w.getD (i - 1) default)) := Iff.rfl
          generalize loadsI p i (l.getD i 0) = x at e72i hin hwit
          by_cases ha : inS (v.getD i 0) x
          · have ha' : x.lo ≤ v.getD i 0 ∧ v.getD i 0 ≤ x.hi := ha
            by_cases h0 : 0 < i
            · have hpr := hprev h0
              by_cases hb : inS (v.getD i 0 - v.getD (i - 1) 0) (w.getD (i - 1) default)
              · have hb' : (w.getD (i - 1) default).lo ≤ v.getD i 0 - v.getD (i - 1) 0 ∧ v.getD i 0 - v.getD (i - 1) 0 ≤ (w.getD (i - 1) default).hi := hb
                repeat' (conv => whnf
                         first
                         | (((with_reducible refine CallG.rd (f := 72) (X := .agg ⟨spV x⟩) ?_ ?_); (· exact e72i _ (Rd.cons hr))))
                         | ((with_reducible refine DrawSt.walk [0, 1, 2, 3, 4, 5, 6, 7, 8, 9, 10, 11, 12, 13, 14, 15, 16, 17, 18, 19, 20, 21, 22, 23, 24, 25, 26, 27, 28, 29, 30, 31, 32] mixed ?_ ?_); · decide +kernel)
                         | ((with_reducible apply CallG.decY (f := 71)); (· (apply GSpec.cast (sp := f71 _ _ _ _ _); (· (repeat' (first | with_reducible rfl | refine congrArg₂ List.cons ?_ ?_ | exact iN_lit _ | rfl))); all_goals (first | with_reducible assumption | omega | ((repeat (first | with_reducible assumption | with_reducible apply xor_lt | with_reducible apply mul_lt | with_reducible exact pw_lt _ | with_reducible exact inv_lt _ | omega)); done) | ((repeat (first | with_reducible assumption | (with_reducible apply Buf.rd; with_reducible assumption) | (with_reducible apply Rd.appL; with_reducible assumption) | (with_reducible apply Rd.appL; with_reducible apply Buf.rd; with_reducible assumption) | (with_reducible apply Rd.ofH; with_reducible assumption) | (with_reducible apply Rd.ofH1; with_reducible assumption) | with_reducible apply Rd.cons | with_reducible apply Rd.appR)); done) | decide))); · omega)
                         | ((with_reducible apply LoadSt.rdg (g := spV) (s := 2)); (· rfl); (· (repeat (first | with_reducible assumption | (with_reducible apply Buf.rd; with_reducible assumption) | (with_reducible apply Rd.appL; with_reducible assumption) | (with_reducible apply Rd.appL; with_reducible apply Buf.rd; with_reducible assumption) | (with_reducible apply Rd.ofH; with_reducible assumption) | (with_reducible apply Rd.ofH1; with_reducible assumption) | with_reducible apply Rd.cons | with_reducible apply Rd.appR))); (· exact fun _ => rfl); (· decide); · (first | omega | (simp only [List.length_map, List.length_append, List.length_cons, List.length_nil, List.length_take, List.length_drop, List.length_replicate, List.length_set] at *; omega)))
                         | ((with_reducible apply IdxSl.rdg (g := spV) (s := 2)); (· with_reducible assumption); (· exact fun _ => rfl); (· decide); (· rfl); (· first | with_reducible rfl | exact natL _); (· (first | omega | (simp only [List.length_map, List.length_append, List.length_cons, List.length_nil, List.length_take, List.length_drop, List.length_replicate, List.length_set] at *; omega))); · (first | omega | (simp only [List.length_map, List.length_append, List.length_cons, List.length_nil, List.length_take, List.length_drop, List.length_replicate, List.length_set] at *; omega)))
                         | ((with_reducible apply LoadSt.rdZ); (· (repeat (first | with_reducible assumption | (with_reducible apply Buf.rd; with_reducible assumption) | (with_reducible apply Rd.appL; with_reducible assumption) | (with_reducible apply Rd.appL; with_reducible apply Buf.rd; with_reducible assumption) | (with_reducible apply Rd.ofH; with_reducible assumption) | (with_reducible apply Rd.ofH1; with_reducible assumption) | with_reducible apply Rd.cons | with_reducible apply Rd.appR))); · (first | omega | (simp only [List.length_map, List.length_append, List.length_cons, List.length_nil, List.length_take, List.length_drop, List.length_replicate, List.length_set] at *; omega)))
                         | (with_reducible refine NextSt.mk ?_)
                         | (with_reducible refine OnBB.tt ?_)
                         | (with_reducible refine OnBB.ff ?_)
                         | ((with_reducible apply NW.addN); (· first | with_reducible rfl | exact natL _); (· first | with_reducible rfl | exact natL _); (· omega))
                         | ((with_reducible apply NW.subN); (· first | with_reducible rfl | exact natL _); (· first | with_reducible rfl | exact natL _); (· omega))
                         | ((with_reducible apply NW.i64); · omega)
                         | ((with_reducible apply Cmp.yes); · first | omega | (with_reducible assumption) | (with_reducible rfl))
                         | ((with_reducible apply LoadSt.boxAgg); · (repeat (first | exact List.Mem.head _ | with_reducible apply List.mem_append_right | with_reducible apply List.mem_cons_of_mem)))
                         | ((with_reducible apply IdxSl.rd1); (· with_reducible assumption); (· rfl); (· first | with_reducible rfl | exact natL _); (· (first | omega | (simp only [List.length_map, List.length_append, List.length_cons, List.length_nil, List.length_take, List.length_drop, List.length_replicate, List.length_set] at *; omega))); · (first | omega | (simp only [List.length_map, List.length_append, List.length_cons, List.length_nil, List.length_take, List.length_drop, List.length_replicate, List.length_set] at *; omega))))
                all_goals
                  refine RoundFix.mk (i + 1) ?_ ?_ _ rfl (Wk.drop (by (try dsimp only); (try simp only [List.cons_append, List.nil_append]); (repeat (first | with_reducible exact List.Sublist.refl _ | with_reducible exact List.nil_sublist _ | with_reducible apply List.Sublist.cons_cons | with_reducible apply sub_app | apply List.Sublist.cons_cons | apply sub_app | with_reducible apply List.Sublist.cons | with_reducible apply sub_skip)))) ?_
                  · omega
                  · repeat' (first | exact True.intro | refine And.intro ?_ ?_ | rfl | exact congrArg (Value.int _) (by omega) | exact congrArg (fun n => Value.slice _ n _) (by (try dsimp only); omega))
                  · refine ⟨hil, fun j hj => ?_⟩
                    by_cases e : j = i
                    · rw [e]; exact hwit.2 ⟨ha, fun _ => hb⟩
                    · exact hall j (by omega)
              · have hb' : ¬ ((w.getD (i - 1) default).lo ≤ v.getD i 0 - v.getD (i - 1) 0 ∧ v.getD i 0 - v.getD (i - 1) 0 ≤ (w.getD (i - 1) default).hi) := hb
                rw [hno fun hx => hb ((hwit.1 (hx.2 i hil)).2 h0)]
                repeat' (conv => whnf
                         first
                         | (((with_reducible refine CallG.rd (f := 72) (X := .agg ⟨spV x⟩) ?_ ?_); (· exact e72i _ (Rd.cons hr))))
                         | ((with_reducible refine DrawSt.walk [0, 1, 2, 3, 4, 5, 6, 7, 8, 9, 10, 11, 12, 13, 14, 15, 16, 17, 18, 19, 20, 21, 22, 23, 24, 25, 26, 27, 28, 29, 30, 31, 32] mixed ?_ ?_); · decide +kernel)
                         | ((with_reducible apply CallG.decY (f := 71)); (· (apply GSpec.cast (sp := f71 _ _ _ _ _); (· (repeat' (first | with_reducible rfl | refine congrArg₂ List.cons ?_ ?_ | exact iN_lit _ | rfl))); all_goals (first | with_reducible assumption | omega | ((repeat (first | with_reducible assumption | with_reducible apply xor_lt | with_reducible apply mul_lt | with_reducible exact pw_lt _ | with_reducible exact inv_lt _ | omega)); done) | ((repeat (first | with_reducible assumption | (with_reducible apply Buf.rd; with_reducible assumption) | (with_reducible apply Rd.appL; with_reducible assumption) | (with_reducible apply Rd.appL; with_reducible apply Buf.rd; with_reducible assumption) | (with_reducible apply Rd.ofH; with_reducible assumption) | (with_reducible apply Rd.ofH1; with_reducible assumption) | with_reducible apply Rd.cons | with_reducible apply Rd.appR)); done) | decide))); · omega)
                         | ((with_reducible apply CallG.decN (f := 71)); (· (apply GSpec.cast (sp := f71 _ _ _ _ _); (· (repeat' (first | with_reducible rfl | refine congrArg₂ List.cons ?_ ?_ | exact iN_lit _ | rfl))); all_goals (first | with_reducible assumption | omega | ((repeat (first | with_reducible assumption | with_reducible apply xor_lt | with_reducible apply mul_lt | with_reducible exact pw_lt _ | with_reducible exact inv_lt _ | omega)); done) | ((repeat (first | with_reducible assumption | (with_reducible apply Buf.rd; with_reducible assumption) | (with_reducible apply Rd.appL; with_reducible assumption) | (with_reducible apply Rd.appL; with_reducible apply Buf.rd; with_reducible assumption) | (with_reducible apply Rd.ofH; with_reducible assumption) | (with_reducible apply Rd.ofH1; with_reducible assumption) | with_reducible apply Rd.cons | with_reducible apply Rd.appR)); done) | decide))); · omega)
                         | ((with_reducible apply LoadSt.rdg (g := spV) (s := 2)); (· rfl); (· (repeat (first | with_reducible assumption | (with_reducible apply Buf.rd; with_reducible assumption) | (with_reducible apply Rd.appL; with_reducible assumption) | (with_reducible apply Rd.appL; with_reducible apply Buf.rd; with_reducible assumption) | (with_reducible apply Rd.ofH; with_reducible assumption) | (with_reducible apply Rd.ofH1; with_reducible assumption) | with_reducible apply Rd.cons | with_reducible apply Rd.appR))); (· exact fun _ => rfl); (· decide); · (first | omega | (simp only [List.length_map, List.length_append, List.length_cons, List.length_nil, List.length_take, List.length_drop, List.length_replicate, List.length_set] at *; omega)))
                         | ((with_reducible apply IdxSl.rdg (g := spV) (s := 2)); (· with_reducible assumption); (· exact fun _ => rfl); (· decide); (· rfl); (· first | with_reducible rfl | exact natL _); (· (first | omega | (simp only [List.length_map, List.length_append, List.length_cons, List.length_nil, List.length_take, List.length_drop, List.length_replicate, List.length_set] at *; omega))); · (first | omega | (simp only [List.length_map, List.length_append, List.length_cons, List.length_nil, List.length_take, List.length_drop, List.length_replicate, List.length_set] at *; omega)))
                         | ((with_reducible apply LoadSt.rdZ); (· (repeat (first | with_reducible assumption | (with_reducible apply Buf.rd; with_reducible assumption) | (with_reducible apply Rd.appL; with_reducible assumption) | (with_reducible apply Rd.appL; with_reducible apply Buf.rd; with_reducible assumption) | (with_reducible apply Rd.ofH; with_reducible assumption) | (with_reducible apply Rd.ofH1; with_reducible assumption) | with_reducible apply Rd.cons | with_reducible apply Rd.appR))); · (first | omega | (simp only [List.length_map, List.length_append, List.length_cons, List.length_nil, List.length_take, List.length_drop, List.length_replicate, List.length_set] at *; omega)))
                         | (with_reducible refine NextSt.mk ?_)
                         | (with_reducible refine OnBB.tt ?_)
                         | (with_reducible refine OnBB.ff ?_)
                         | ((with_reducible apply NW.subN); (· first | with_reducible rfl | exact natL _); (· first | with_reducible rfl | exact natL _); (· omega))
                         | ((with_reducible apply NW.i64); · omega)
                         | ((with_reducible apply Cmp.yes); · first | omega | (with_reducible assumption) | (with_reducible rfl))
                         | ((with_reducible apply LoadSt.boxAgg); · (repeat (first | exact List.Mem.head _ | with_reducible apply List.mem_append_right | with_reducible apply List.mem_cons_of_mem)))
                         | ((with_reducible apply IdxSl.rd1); (· with_reducible assumption); (· rfl); (· first | with_reducible rfl | exact natL _); (· (first | omega | (simp only [List.length_map, List.length_append, List.length_cons, List.length_nil, List.length_take, List.length_drop, List.length_replicate, List.length_set] at *; omega))); · (first | omega | (simp only [List.length_map, List.length_append, List.length_cons, List.length_nil, List.length_take, List.length_drop, List.length_replicate, List.length_set] at *; omega))))
                all_goals
                  conv => whnf
                  refine FinSt.ret (by (try dsimp only); (try simp only [List.cons_append, List.nil_append]); (repeat (first | with_reducible exact List.Sublist.refl _ | with_reducible exact List.nil_sublist _ | with_reducible apply List.Sublist.cons_cons | with_reducible apply sub_app | apply List.Sublist.cons_cons | apply sub_app | with_reducible apply List.Sublist.cons | with_reducible apply sub_skip))) ?_
                  rfl
            · repeat' (conv => whnf
                       first
                       | (((with_reducible refine CallG.rd (f := 72) (X := .agg ⟨spV x⟩) ?_ ?_); (· exact e72i _ (Rd.cons hr))))
                       | ((with_reducible refine DrawSt.walk [0, 1, 2, 3, 4, 5, 6, 7, 8, 9, 10, 11, 12, 13, 14, 15, 16, 17, 18, 19, 20, 21, 22, 23, 24, 25, 26, 27, 28, 29, 30, 31, 32] mixed ?_ ?_); · decide +kernel)
                       | ((with_reducible apply CallG.decY (f := 71)); (· (apply GSpec.cast (sp := f71 _ _ _ _ _); (· (repeat' (first | with_reducible rfl | refine congrArg₂ List.cons ?_ ?_ | exact iN_lit _ | rfl))); all_goals (first | with_reducible assumption | omega | ((repeat (first | with_reducible assumption | with_reducible apply xor_lt | with_reducible apply mul_lt | with_reducible exact pw_lt _ | with_reducible exact inv_lt _ | omega)); done) | ((repeat (first | with_reducible assumption | (with_reducible apply Buf.rd; with_reducible assumption) | (with_reducible apply Rd.appL; with_reducible assumption) | (with_reducible apply Rd.appL; with_reducible apply Buf.rd; with_reducible assumption) | (with_reducible apply Rd.ofH; with_reducible assumption) | (with_reducible apply Rd.ofH1; with_reducible assumption) | with_reducible apply Rd.cons | with_reducible apply Rd.appR)); done) | decide))); · omega)
                       | ((with_reducible apply LoadSt.rdZ); (· (repeat (first | with_reducible assumption | (with_reducible apply Buf.rd; with_reducible assumption) | (with_reducible apply Rd.appL; with_reducible assumption) | (with_reducible apply Rd.appL; with_reducible apply Buf.rd; with_reducible assumption) | (with_reducible apply Rd.ofH; with_reducible assumption) | (with_reducible apply Rd.ofH1; with_reducible assumption) | with_reducible apply Rd.cons | with_reducible apply Rd.appR))); · (first | omega | (simp only [List.length_map, List.length_append, List.length_cons, List.length_nil, List.length_take, List.length_drop, List.length_replicate, List.length_set] at *; omega)))
                       | (with_reducible refine NextSt.mk ?_)
                       | (with_reducible refine OnBB.tt ?_)
                       | (with_reducible refine OnBB.ff ?_)
                       | ((with_reducible apply NW.addN); (· first | with_reducible rfl | exact natL _); (· first | with_reducible rfl | exact natL _); (· omega))
                       | ((with_reducible apply Cmp.yes); · first | omega | (with_reducible assumption) | (with_reducible rfl))
                       | ((with_reducible apply Cmp.no); · first | omega | (with_reducible assumption))
                       | ((with_reducible apply LoadSt.boxAgg); · (repeat (first | exact List.Mem.head _ | with_reducible apply List.mem_append_right | with_reducible apply List.mem_cons_of_mem)))
                       | ((with_reducible apply IdxSl.rd1); (· with_reducible assumption); (· rfl); (· first | with_reducible rfl | exact natL _); (· (first | omega | (simp only [List.length_map, List.length_append, List.length_cons, List.length_nil, List.length_take, List.length_drop, List.length_replicate, List.length_set] at *; omega))); · (first | omega | (simp only [List.length_map, List.length_append, List.length_cons, List.length_nil, List.length_take, List.length_drop, List.length_replicate, List.length_set] at *; omega))))
              all_goals
                refine RoundFix.mk (i + 1) ?_ ?_ _ rfl (Wk.drop (by (try dsimp only); (try simp only [List.cons_append, List.nil_append]); (repeat (first | with_reducible exact List.Sublist.refl _ | with_reducible exact List.nil_sublist _ | with_reducible apply List.Sublist.cons_cons | with_reducible apply sub_app | apply List.Sublist.cons_cons | apply sub_app | with_reducible apply List.Sublist.cons | with_reducible apply sub_skip)))) ?_
                · omega
                · repeat' (first | exact True.intro | refine And.intro ?_ ?_ | rfl | exact congrArg (Value.int _) (by omega) | exact congrArg (fun n => Value.slice _ n _) (by (try dsimp only); omega))
                · refine ⟨hil, fun j hj => ?_⟩
                  by_cases e : j = i
                  · rw [e]; exact hwit.2 ⟨ha, fun hx => absurd hx h0⟩
                  · exact hall j (by omega)
          · have ha' : ¬ (x.lo ≤ v.getD i 0 ∧ v.getD i 0 ≤ x.hi) := ha
            rw [hno fun hx => ha (hwit.1 (hx.2 i hil)).1]
            repeat' (conv => whnf
                     first
                     | (((with_reducible refine CallG.rd (f := 72) (X := .agg ⟨spV x⟩) ?_ ?_); (· exact e72i _ (Rd.cons hr))))
                     | ((with_reducible refine DrawSt.walk [0, 1, 2, 3, 4, 5, 6, 7, 8, 9, 10, 11, 12, 13, 14, 15, 16, 17, 18, 19, 20, 21, 22, 23, 24, 25, 26, 27, 28, 29, 30, 31, 32] mixed ?_ ?_); · decide +kernel)
                     | ((with_reducible apply CallG.decN (f := 71)); (· (apply GSpec.cast (sp := f71 _ _ _ _ _); (· (repeat' (first | with_reducible rfl | refine congrArg₂ List.cons ?_ ?_ | exact iN_lit _ | rfl))); all_goals (first | with_reducible assumption | omega | ((repeat (first | with_reducible assumption | with_reducible apply xor_lt | with_reducible apply mul_lt | with_reducible exact pw_lt _ | with_reducible exact inv_lt _ | omega)); done) | ((repeat (first | with_reducible assumption | (with_reducible apply Buf.rd; with_reducible assumption) | (with_reducible apply Rd.appL; with_reducible assumption) | (with_reducible apply Rd.appL; with_reducible apply Buf.rd; with_reducible assumption) | (with_reducible apply Rd.ofH; with_reducible assumption) | (with_reducible apply Rd.ofH1; with_reducible assumption) | with_reducible apply Rd.cons | with_reducible apply Rd.appR)); done) | decide))); · omega)
                     | ((with_reducible apply LoadSt.rdZ); (· (repeat (first | with_reducible assumption | (with_reducible apply Buf.rd; with_reducible assumption) | (with_reducible apply Rd.appL; with_reducible assumption) | (with_reducible apply Rd.appL; with_reducible apply Buf.rd; with_reducible assumption) | (with_reducible apply Rd.ofH; with_reducible assumption) | (with_reducible apply Rd.ofH1; with_reducible assumption) | with_reducible apply Rd.cons | with_reducible apply Rd.appR))); · (first | omega | (simp only [List.length_map, List.length_append, List.length_cons, List.length_nil, List.length_take, List.length_drop, List.length_replicate, List.length_set] at *; omega)))
                     | (with_reducible refine NextSt.mk ?_)
                     | (with_reducible refine OnBB.tt ?_)
                     | (with_reducible refine OnBB.ff ?_)
                     | ((with_reducible apply Cmp.yes); · first | omega | (with_reducible assumption) | (with_reducible rfl))
                     | ((with_reducible apply LoadSt.boxAgg); · (repeat (first | exact List.Mem.head _ | with_reducible apply List.mem_append_right | with_reducible apply List.mem_cons_of_mem)))
                     | ((with_reducible apply IdxSl.rd1); (· with_reducible assumption); (· rfl); (· first | with_reducible rfl | exact natL _); (· (first | omega | (simp only [List.length_map, List.length_append, List.length_cons, List.length_nil, List.length_take, List.length_drop, List.length_replicate, List.length_set] at *; omega))); · (first | omega | (simp only [List.length_map, List.length_append, List.length_cons, List.length_nil, List.length_take, List.length_drop, List.length_replicate, List.length_set] at *; omega))))
            all_goals
              conv => whnf
              refine FinSt.ret (by (try dsimp only); (try simp only [List.cons_append, List.nil_append]); (repeat (first | with_reducible exact List.Sublist.refl _ | with_reducible exact List.nil_sublist _ | with_reducible apply List.Sublist.cons_cons | with_reducible apply sub_app | apply List.Sublist.cons_cons | apply sub_app | with_reducible apply List.Sublist.cons | with_reducible apply sub_skip))) ?_
              rfl
        · have hy : witV p w l v = 0 := (if_neg (fun hx => hx ht)).trans (if_pos ⟨hlen, fun j hj => hall j (by omega)⟩)
          rw [hy]
          repeat' (conv => whnf
                   first
                   | (with_reducible refine NextSt.mk ?_)
                   | (with_reducible refine OnBB.ff ?_)
                   | ((with_reducible apply Cmp.no); · first | omega | (with_reducible assumption)))
          conv => whnf
          refine FinSt.ret (by (try dsimp only); (try simp only [List.cons_append, List.nil_append]); (repeat (first | with_reducible exact List.Sublist.refl _ | with_reducible exact List.nil_sublist _ | with_reducible apply List.Sublist.cons_cons | with_reducible apply sub_app | apply List.Sublist.cons_cons | apply sub_app | with_reducible apply List.Sublist.cons | with_reducible apply sub_skip))) ?_
          rfl
    · rw [hno fun hx => hlen hx.1]
      refine GSpec.enter (fn := Tryd.f40) Tryd.func40 rfl (by kernel_rfl) ?_
      repeat' (conv => whnf
               first
               | (((with_reducible refine CallSt.rd (f := 62) (X := .int .i64 0) ?_ ?_); (· exact e62 _ (Rd.cons hr) (Rd.cons hr2) (Rd.cons hr3))))
               | (with_reducible refine NextSt.mk ?_)
               | (with_reducible refine OnBB.tt ?_)
               | (with_reducible refine OnBB.ff ?_)
               | ((with_reducible apply Cmp.yes); · first | omega | (with_reducible assumption) | (with_reducible rfl))
               | ((with_reducible apply Cmp.no); · first | omega | (with_reducible assumption))
               | ((with_reducible apply LoadSt.boxAgg); · (repeat (first | exact List.Mem.head _ | with_reducible apply List.mem_append_right | with_reducible apply List.mem_cons_of_mem)))
               | ((with_reducible refine AllocSt.mk ?_); intro _b _hb _hbO))
      conv => whnf
      refine FinSt.ret (by (try dsimp only); (try simp only [List.cons_append, List.nil_append]); (repeat (first | with_reducible exact List.Sublist.refl _ | with_reducible exact List.nil_sublist _ | with_reducible apply List.Sublist.cons_cons | with_reducible apply sub_app | apply List.Sublist.cons_cons | apply sub_app | with_reducible apply List.Sublist.cons | with_reducible apply sub_skip))) ?_
      rfl
  · rw [show witV p w l v = toldV p w l from if_pos ht]
    refine GSpec.enter (fn := Tryd.f40) Tryd.func40 rfl (by kernel_rfl) ?_
    repeat' (conv => whnf
             first
             | (((with_reducible refine CallSt.rd (f := 62) (X := .int .i64 (toldV p w l)) ?_ ?_); (· exact e62 _ (Rd.cons hr) (Rd.cons hr2) (Rd.cons hr3))))
             | (with_reducible refine NextSt.mk ?_)
             | (with_reducible refine OnBB.tt ?_)
             | ((with_reducible apply Cmp.yes); · first | omega | (with_reducible assumption) | (with_reducible rfl))
             | ((with_reducible apply LoadSt.boxAgg); · (repeat (first | exact List.Mem.head _ | with_reducible apply List.mem_append_right | with_reducible apply List.mem_cons_of_mem)))
             | ((with_reducible refine AllocSt.mk ?_); intro _b _hb _hbO))
    conv => whnf
    refine FinSt.ret (by (try dsimp only); (try simp only [List.cons_append, List.nil_append]); (repeat (first | with_reducible exact List.Sublist.refl _ | with_reducible exact List.nil_sublist _ | with_reducible apply List.Sublist.cons_cons | with_reducible apply sub_app | apply List.Sublist.cons_cons | apply sub_app | with_reducible apply List.Sublist.cons | with_reducible apply sub_skip))) ?_
    rfl
end Go.Proofs.YtaahjlhfmkjefaaDoor
/- The reference's check of an entry. -/
namespace Go.Proofs.YtaahjlhfmkjefaaDoor
open Go Go.Gv
set_option maxRecDepth 100000
set_option maxHeartbeats 8000000
set_option linter.unusedSimpArgs false
set_option linter.unusedVariables false
end Go.Proofs.YtaahjlhfmkjefaaDoor
/- Are two pillows the same: the reference. -/
namespace Go.Proofs.YtaahjlhfmkjefaaDoor
open Go Go.Gv
set_option maxRecDepth 100000
set_option maxHeartbeats 8000000
set_option linter.unusedSimpArgs false
set_option linter.unusedVariables false
theorem wf_int {n : Int} (h : i64 n) : (Lit.int .i64 n).wf = true := by
  obtain ⟨h1, h2⟩ := h
  simp [Lit.wf, IntKind.min, IntKind.max, IntKind.signed, IntKind.bits]; omega
/-- An entry that memory holds. -/
def shW (x : Sh) : Prop := i64 x.day ∧ i64 x.wt
theorem kl57 {e : Sh} (h : shW e) : Tryd.prog.keyLits 2 57 (shV e) = some [.int .i64 e.day, .int .i64 e.wt] := by
  have hu : Tryd.prog.underlying 57 = some (.struct #[⟨"Day", 3, 0, false, "", "", 0⟩, ⟨"Weight", 3, 1, false, "", "", 8⟩]) := by kernel_rfl
  have hu3 : Tryd.prog.underlying 3 = some (.int .i64) := by kernel_rfl
  have hc : Tryd.prog.cellsOf 57 = 2 := by kernel_rfl
  have hc3 : Tryd.prog.cellsOf 3 = 1 := by kernel_rfl
  simp [Program.keyLits, hu, hu3, hc, hc3, shV, wf_int h.1, wf_int h.2]
theorem eq57 {e f : Sh} (he : shW e) (hf : shW f) {K : Bool → Prop} (hK : K (decide (e = f))) : EqSt Tryd.prog 57 (.agg ⟨shV e⟩) (.agg ⟨shV f⟩) K := by
  have hu : Tryd.prog.underlying 57 = some (.struct #[⟨"Day", 3, 0, false, "", "", 0⟩, ⟨"Weight", 3, 1, false, "", "", 8⟩]) := by kernel_rfl
  have hc : Tryd.prog.cellsOf 57 = 2 := by kernel_rfl
  refine EqSt.key 2 2 _ _ (by kernel_rfl) (by decide) (by kernel_rfl) ?_ ?_ (kl57 he) (kl57 hf) (e = f) ?_ hK
  · simp [Value.formed, hu, hc, shV]
  · simp [Value.formed, hu, hc, shV]
  · obtain ⟨a, b⟩ := e
    obtain ⟨a', b'⟩ := f
    simp
theorem f48 (p q : Pl) (a a2 : Option Addr) (c c2 : Nat) (hl : p.log.length ≤ 9223372036854775807) (hl2 : q.log.length ≤ 9223372036854775807) (hi1 : ∀ i < p.log.length, shW (p.log.getD i default)) (hi2 : ∀ i < q.log.length, shW (q.log.getD i default)) (h : View) (O : Hp) (hr : Rd h O a (p.log.flatMap shV)) (hr2 : Rd h O a2 (q.log.flatMap shV)) :
    GSpec Tryd.prog 48 [.agg ⟨plV p a c⟩, .agg ⟨plV q a2 c2⟩] h O (Ret O (.bool (decide (p = q)))) := by
  obtain ⟨p1, p2, p3, p4, p5, p6, pl⟩ := p
  obtain ⟨q1, q2, q3, q4, q5, q6, ql⟩ := q
  simp only at hl hl2 hr hr2 hi1 hi2
  show GSpec Tryd.prog 48 [.agg ⟨[.int .i64 p1, .int .i64 p2, .int .i64 p3, .int .i64 p4, .int .i64 p5, .int .i64 p6, .slice a pl.length c]⟩, .agg ⟨[.int .i64 q1, .int .i64 q2, .int .i64 q3, .int .i64 q4, .int .i64 q5, .int .i64 q6, .slice a2 ql.length c2]⟩] h O _
  by_cases hh : p1 = q1 ∧ p2 = q2 ∧ p3 = q3 ∧ p4 = q4 ∧ p5 = q5 ∧ p6 = q6 ∧ pl.length = ql.length
  · obtain ⟨e1, e2, e3, e4, e5, e6, e7⟩ := hh
    refine GSpec.enter (fn := Tryd.f48) Tryd.func48 rfl (by kernel_rfl) ?_
    repeat' (conv => whnf
             first
             | (with_reducible refine NextSt.mk ?_)
             | (with_reducible refine OnBB.ff ?_)
             | ((with_reducible apply Cmp.no); · first | omega | (with_reducible assumption))
             | ((with_reducible apply LoadSt.box); · (repeat (first | exact List.Mem.head _ | with_reducible apply List.mem_append_right | with_reducible apply List.mem_cons_of_mem)))
             | ((with_reducible refine AllocSt.mk ?_); intro _b _hb _hbO))
    refine LoopSt.fix [4, 5, 55, 56, 57, 58, 59, 60, 61, 62, 63, 64, 65, 66, 67, 68, 69, 70, 71, 72] (fun (i : Nat) => [(5, iN i)]) (fun _ => _) (fun i => i ≤ pl.length ∧ ∀ j < i, pl.getD j default = ql.getD j default) (fun i => pl.length - i) (0) _ (Wk.refl _ _) (rfl) ?_ ?_ ?_
    · repeat' (first | exact True.intro | refine And.intro ?_ ?_ | rfl | exact congrArg (Value.int _) (by omega) | exact congrArg (fun n => Value.slice _ n _) (by (try dsimp only); omega))
    · exact ⟨Nat.zero_le _, fun j hj => by omega⟩
    · rintro i d ⟨hi, hall⟩
      by_cases hil : i < pl.length
      · by_cases hs : pl.getD i default = ql.getD i default
        · have e57 {K : Bool → Prop} (hK : K true) : EqSt Tryd.prog 57 (.agg ⟨shV (pl.getD i default)⟩) (.agg ⟨shV (ql.getD i default)⟩) K := eq57 (hi1 i hil) (hi2 i (by omega)) (by rw [decide_eq_true hs]; exact hK)
          repeat' (conv => whnf
                   first
                   | ((with_reducible refine e57 ?_))
                   | ((with_reducible refine DrawSt.walk [0, 1, 2, 3, 4, 5, 6, 7, 8, 9, 10] mixed ?_ ?_); · decide +kernel)
                   | ((with_reducible apply LoadSt.rdg (g := shV) (s := 2)); (· rfl); (· (repeat (first | with_reducible assumption | (with_reducible apply Buf.rd; with_reducible assumption) | (with_reducible apply Rd.appL; with_reducible assumption) | (with_reducible apply Rd.appL; with_reducible apply Buf.rd; with_reducible assumption) | (with_reducible apply Rd.ofH; with_reducible assumption) | (with_reducible apply Rd.ofH1; with_reducible assumption) | with_reducible apply Rd.cons | with_reducible apply Rd.appR))); (· exact fun _ => rfl); (· decide); · (first | omega | (simp only [List.length_map, List.length_append, List.length_cons, List.length_nil, List.length_take, List.length_drop, List.length_replicate, List.length_set] at *; omega)))
                   | ((with_reducible apply IdxSl.rdg (g := shV) (s := 2)); (· with_reducible assumption); (· exact fun _ => rfl); (· decide); (· rfl); (· first | with_reducible rfl | exact natL _); (· (first | omega | (simp only [List.length_map, List.length_append, List.length_cons, List.length_nil, List.length_take, List.length_drop, List.length_replicate, List.length_set] at *; omega))); · (first | omega | (simp only [List.length_map, List.length_append, List.length_cons, List.length_nil, List.length_take, List.length_drop, List.length_replicate, List.length_set] at *; omega)))
                   | (with_reducible refine NextSt.mk ?_)
                   | (with_reducible refine OnBB.tt ?_)
                   | (with_reducible refine OnBB.ff ?_)
                   | ((with_reducible apply NW.addN); (· first | with_reducible rfl | exact natL _); (· first | with_reducible rfl | exact natL _); (· omega))
                   | ((with_reducible apply Cmp.yes); · first | omega | (with_reducible assumption) | (with_reducible rfl))
                   | ((with_reducible apply LoadSt.box); · (repeat (first | exact List.Mem.head _ | with_reducible apply List.mem_append_right | with_reducible apply List.mem_cons_of_mem))))
          refine RoundFix.mk (i + 1) ?_ ?_ _ rfl (Wk.drop (by (try dsimp only); (try simp only [List.cons_append, List.nil_append]); (repeat (first | with_reducible exact List.Sublist.refl _ | with_reducible exact List.nil_sublist _ | with_reducible apply List.Sublist.cons_cons | with_reducible apply sub_app | apply List.Sublist.cons_cons | apply sub_app | with_reducible apply List.Sublist.cons | with_reducible apply sub_skip)))) ?_
          · omega
          · repeat' (first | exact True.intro | refine And.intro ?_ ?_ | rfl | exact congrArg (Value.int _) (by omega) | exact congrArg (fun n => Value.slice _ n _) (by (try dsimp only); omega))
          · refine ⟨hil, fun j hj => ?_⟩
            by_cases e : j = i
            · rw [e]; exact hs
            · exact hall j (by omega)
        · have e57 {K : Bool → Prop} (hK : K false) : EqSt Tryd.prog 57 (.agg ⟨shV (pl.getD i default)⟩) (.agg ⟨shV (ql.getD i default)⟩) K := eq57 (hi1 i hil) (hi2 i (by omega)) (by rw [decide_eq_false hs]; exact hK)
          rw [decide_eq_false fun hx => hs (by cases hx; rfl)]
          repeat' (conv => whnf
                   first
                   | ((with_reducible refine e57 ?_))
                   | ((with_reducible refine DrawSt.walk [0, 1, 2, 3, 4, 5, 6, 7, 8, 9, 10] mixed ?_ ?_); · decide +kernel)
                   | ((with_reducible apply LoadSt.rdg (g := shV) (s := 2)); (· rfl); (· (repeat (first | with_reducible assumption | (with_reducible apply Buf.rd; with_reducible assumption) | (with_reducible apply Rd.appL; with_reducible assumption) | (with_reducible apply Rd.appL; with_reducible apply Buf.rd; with_reducible assumption) | (with_reducible apply Rd.ofH; with_reducible assumption) | (with_reducible apply Rd.ofH1; with_reducible assumption) | with_reducible apply Rd.cons | with_reducible apply Rd.appR))); (· exact fun _ => rfl); (· decide); · (first | omega | (simp only [List.length_map, List.length_append, List.length_cons, List.length_nil, List.length_take, List.length_drop, List.length_replicate, List.length_set] at *; omega)))
                   | ((with_reducible apply IdxSl.rdg (g := shV) (s := 2)); (· with_reducible assumption); (· exact fun _ => rfl); (· decide); (· rfl); (· first | with_reducible rfl | exact natL _); (· (first | omega | (simp only [List.length_map, List.length_append, List.length_cons, List.length_nil, List.length_take, List.length_drop, List.length_replicate, List.length_set] at *; omega))); · (first | omega | (simp only [List.length_map, List.length_append, List.length_cons, List.length_nil, List.length_take, List.length_drop, List.length_replicate, List.length_set] at *; omega)))
                   | (with_reducible refine NextSt.mk ?_)
                   | (with_reducible refine OnBB.tt ?_)
                   | ((with_reducible apply Cmp.yes); · first | omega | (with_reducible assumption) | (with_reducible rfl))
                   | ((with_reducible apply LoadSt.box); · (repeat (first | exact List.Mem.head _ | with_reducible apply List.mem_append_right | with_reducible apply List.mem_cons_of_mem))))
          conv => whnf
          refine FinSt.ret (by (try dsimp only); (try simp only [List.cons_append, List.nil_append]); (repeat (first | with_reducible exact List.Sublist.refl _ | with_reducible exact List.nil_sublist _ | with_reducible apply List.Sublist.cons_cons | with_reducible apply sub_app | apply List.Sublist.cons_cons | apply sub_app | with_reducible apply List.Sublist.cons | with_reducible apply sub_skip))) ?_
          rfl
      · have he : pl = ql := by
          apply List.ext_getElem e7
          intro k h1 h2
          have := hall k (by omega)
          rw [List.getD_eq_getElem?_getD, List.getD_eq_getElem?_getD, List.getElem?_eq_getElem h1, List.getElem?_eq_getElem h2] at this
          exact this
        subst e1 e2 e3 e4 e5 e6 he
        rw [decide_eq_true rfl]
        repeat' (conv => whnf
                 first
                 | (with_reducible refine NextSt.mk ?_)
                 | (with_reducible refine OnBB.ff ?_)
                 | ((with_reducible apply Cmp.no); · first | omega | (with_reducible assumption))
                 | ((with_reducible apply LoadSt.box); · (repeat (first | exact List.Mem.head _ | with_reducible apply List.mem_append_right | with_reducible apply List.mem_cons_of_mem))))
        conv => whnf
        refine FinSt.ret (by (try dsimp only); (try simp only [List.cons_append, List.nil_append]); (repeat (first | with_reducible exact List.Sublist.refl _ | with_reducible exact List.nil_sublist _ | with_reducible apply List.Sublist.cons_cons | with_reducible apply sub_app | apply List.Sublist.cons_cons | apply sub_app | with_reducible apply List.Sublist.cons | with_reducible apply sub_skip))) ?_
        rfl
  · rw [decide_eq_false fun hx => hh (by cases hx; exact ⟨rfl, rfl, rfl, rfl, rfl, rfl, rfl⟩)]
    refine GSpec.enter (fn := Tryd.f48) Tryd.func48 rfl (by kernel_rfl) ?_
    repeat' (conv => whnf
             first
             | (with_reducible refine NextSt.mk ?_)
             | (with_reducible refine OnBB.tt ?_)
             | (with_reducible refine OnBB.ff ?_)
             | ((with_reducible apply Cmp.yes); · first | omega | (with_reducible assumption) | (with_reducible rfl))
             | ((with_reducible apply LoadSt.box); · (repeat (first | exact List.Mem.head _ | with_reducible apply List.mem_append_right | with_reducible apply List.mem_cons_of_mem)))
             | ((with_reducible refine AllocSt.mk ?_); intro _b _hb _hbO)
             | ((with_reducible refine Cmp.mk ?_ ?_) <;> intro _hc))
    all_goals try (conv => whnf)
    all_goals first | (refine FinSt.ret (by (try dsimp only); (try simp only [List.cons_append, List.nil_append]); (repeat (first | with_reducible exact List.Sublist.refl _ | with_reducible exact List.nil_sublist _ | with_reducible apply List.Sublist.cons_cons | with_reducible apply sub_app | apply List.Sublist.cons_cons | apply sub_app | with_reducible apply List.Sublist.cons | with_reducible apply sub_skip))) ?_; with_reducible rfl) | (exfalso; omega)
end Go.Proofs.YtaahjlhfmkjefaaDoor
