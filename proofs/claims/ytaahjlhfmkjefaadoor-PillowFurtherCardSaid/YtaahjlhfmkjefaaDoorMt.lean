/- The law of cases. -/
import Derived.Test.YtaahjlhfmkjefaaDoorMr
import Derived.Test.YtaahjlhfmkjefaaDoorMi
set_option linter.unusedVariables false
set_option linter.unusedSimpArgs false
set_option linter.unusedSectionVars false
/- The law of cases: the walk. -/
namespace Go.Proofs.YtaahjlhfmkjefaaDoor
open Go Go.Gv
set_option maxRecDepth 100000
set_option maxHeartbeats 16000000
set_option linter.unusedSimpArgs false
set_option linter.unusedVariables false
instance (p : Pl) : Decidable (fewP p) := by unfold fewP; infer_instance
theorem f17 (p : Pl) (a : Option Addr) (c : Nat) (hl : p.log.length ≤ 9223372036854775807) (h : View) (O : Hp) :
    GSpec Tryd.prog 17 [.agg ⟨plV p a c⟩] h O (Ret O (.bool (decide (fewP p ∧ p.log.length ≤ 40)))) := by
  show GSpec Tryd.prog 17 [.agg ⟨[.int .i64 p.no, .int .i64 p.cell, .int .i64 p.noise, .int .i64 p.slab, .int .i64 p.jump, .int .i64 p.faults, .slice a p.log.length c]⟩] h O _
  by_cases h8 : p.log.length ≤ 8
  · rw [decide_eq_true (show fewP p ∧ p.log.length ≤ 40 from ⟨.inl h8, by omega⟩)]
    refine GSpec.enter (fn := Tryd.f17) Tryd.func17 rfl (by kernel_rfl) ?_
    repeat' (conv => whnf
             first
             | (with_reducible refine NextSt.mk ?_)
             | (with_reducible refine OnBB.tt ?_)
             | ((with_reducible apply Cmp.yes); · first | omega | (with_reducible assumption) | (with_reducible rfl))
             | ((with_reducible apply LoadSt.box); · (repeat (first | exact List.Mem.head _ | with_reducible apply List.mem_append_right | with_reducible apply List.mem_cons_of_mem)))
             | ((with_reducible refine AllocSt.mk ?_); intro _b _hb _hbO))
    conv => whnf
    refine FinSt.ret (by (try dsimp only); (try simp only [List.cons_append, List.nil_append]); (repeat (first | with_reducible exact List.Sublist.refl _ | with_reducible exact List.nil_sublist _ | with_reducible apply List.Sublist.cons_cons | with_reducible apply sub_app | apply List.Sublist.cons_cons | apply sub_app | with_reducible apply List.Sublist.cons | with_reducible apply sub_skip))) ?_
    rfl
  · by_cases h32 : 32 < p.log.length
    · by_cases h40 : p.log.length ≤ 40
      · rw [decide_eq_true (show fewP p ∧ p.log.length ≤ 40 from ⟨.inr h32, h40⟩)]
        refine GSpec.enter (fn := Tryd.f17) Tryd.func17 rfl (by kernel_rfl) ?_
        repeat' (conv => whnf
                 first
                 | (with_reducible refine NextSt.mk ?_)
                 | (with_reducible refine OnBB.tt ?_)
                 | (with_reducible refine OnBB.ff ?_)
                 | ((with_reducible apply Cmp.yes); · first | omega | (with_reducible assumption) | (with_reducible rfl))
                 | ((with_reducible apply Cmp.no); · first | omega | (with_reducible assumption))
                 | ((with_reducible apply LoadSt.box); · (repeat (first | exact List.Mem.head _ | with_reducible apply List.mem_append_right | with_reducible apply List.mem_cons_of_mem)))
                 | ((with_reducible refine AllocSt.mk ?_); intro _b _hb _hbO))
        conv => whnf
        refine FinSt.ret (by (try dsimp only); (try simp only [List.cons_append, List.nil_append]); (repeat (first | with_reducible exact List.Sublist.refl _ | with_reducible exact List.nil_sublist _ | with_reducible apply List.Sublist.cons_cons | with_reducible apply sub_app | apply List.Sublist.cons_cons | apply sub_app | with_reducible apply List.Sublist.cons | with_reducible apply sub_skip))) ?_
        rfl
      · rw [decide_eq_false (fun e : fewP p ∧ p.log.length ≤ 40 => h40 e.2)]
        refine GSpec.enter (fn := Tryd.f17) Tryd.func17 rfl (by kernel_rfl) ?_
        repeat' (conv => whnf
                 first
                 | (with_reducible refine NextSt.mk ?_)
                 | (with_reducible refine OnBB.tt ?_)
                 | (with_reducible refine OnBB.ff ?_)
                 | ((with_reducible apply Cmp.yes); · first | omega | (with_reducible assumption) | (with_reducible rfl))
                 | ((with_reducible apply Cmp.no); · first | omega | (with_reducible assumption))
                 | ((with_reducible apply LoadSt.box); · (repeat (first | exact List.Mem.head _ | with_reducible apply List.mem_append_right | with_reducible apply List.mem_cons_of_mem)))
                 | ((with_reducible refine AllocSt.mk ?_); intro _b _hb _hbO))
        conv => whnf
        refine FinSt.ret (by (try dsimp only); (try simp only [List.cons_append, List.nil_append]); (repeat (first | with_reducible exact List.Sublist.refl _ | with_reducible exact List.nil_sublist _ | with_reducible apply List.Sublist.cons_cons | with_reducible apply sub_app | apply List.Sublist.cons_cons | apply sub_app | with_reducible apply List.Sublist.cons | with_reducible apply sub_skip))) ?_
        rfl
    · rw [decide_eq_false (fun e : fewP p ∧ p.log.length ≤ 40 => e.1.elim h8 h32)]
      refine GSpec.enter (fn := Tryd.f17) Tryd.func17 rfl (by kernel_rfl) ?_
      repeat' (conv => whnf
               first
               | (with_reducible refine NextSt.mk ?_)
               | (with_reducible refine OnBB.ff ?_)
               | ((with_reducible apply Cmp.no); · first | omega | (with_reducible assumption))
               | ((with_reducible apply LoadSt.box); · (repeat (first | exact List.Mem.head _ | with_reducible apply List.mem_append_right | with_reducible apply List.mem_cons_of_mem)))
               | ((with_reducible refine AllocSt.mk ?_); intro _b _hb _hbO))
      conv => whnf
      refine FinSt.ret (by (try dsimp only); (try simp only [List.cons_append, List.nil_append]); (repeat (first | with_reducible exact List.Sublist.refl _ | with_reducible exact List.nil_sublist _ | with_reducible apply List.Sublist.cons_cons | with_reducible apply sub_app | apply List.Sublist.cons_cons | apply sub_app | with_reducible apply List.Sublist.cons | with_reducible apply sub_skip))) ?_
      rfl
theorem casesL_len (p : Pl) (w : List Sp) : (casesL p w).length ≤ 64 ∧ ∀ i < (casesL p w).length, ((casesL p w).getD i []).length ≤ 32 := by
  by_cases he : casesE p w = 0
  · rw [casesL_ok he]
    have ht : tellV p w = 0 := Classical.byContradiction fun e => e (by rw [casesE_bad e] at he; exact he)
    have hm : ¬ 64 < (remV p w).length := fun e => by rw [casesE_many ht e] at he; cases he
    have hp := (tell_ok ht).1
    exact ⟨by omega, fun i hi => by rw [(remV_at hp hi).1.1]; exact hp.1.2.2.2.2.2.2⟩
  · rw [casesL_no he]
    exact ⟨Nat.zero_le _, fun i hi => by cases hi⟩
theorem loadO_in (p : Pl) (w : List Sp) (l : List Int) : (loadO p w l).length ≤ 32 ∧ ∀ i < (loadO p w l).length, spW ((loadO p w l).getD i default) := by
  have h0 : ([] : List Sp).length ≤ 32 ∧ ∀ i < ([] : List Sp).length, spW (([] : List Sp).getD i default) := ⟨Nat.zero_le _, fun i hi => by cases hi⟩
  unfold loadO
  split
  · rename_i ht
    obtain ⟨hp, hw, hc⟩ := told_ok ht
    unfold endsO
    split
    · rename_i ha
      have hl := hp.1.2.2.2.2.2.2
      have hcl := hc.1
      rw [endsV_len]
      refine ⟨by omega, fun i hi => ?_⟩
      rw [endsV_get hi]
      have := end_in hp hw ha hc.1 hi
      unfold spW i64
      omega
    · exact h0
  · exact h0
theorem LLR.all {h : View} {O H : Hp} {ls : List (List Int)} {a : Option Addr} {vs : List (Option Addr × Nat × Nat)} (hr : RdH H a (vs.map gS)) (ht : OutT H ls vs) (hs : ∀ b o, (b, o) ∈ H → (b, o) ∈ O) : RdLL h O a ls :=
  (LLR.rd hr ht).more (fun _ _ e => by cases e) hs
theorem f3 (p : Pl) (w : List Sp) (l : List Int) (a a2 a3 : Option Addr) (c c2 c3 : Nat) (hcap : p.log.length ≤ c) (hcap2 : w.length ≤ c2) (hl : p.log.length ≤ 9223372036854775807) (hw : w.length ≤ 9223372036854775807) (hll : l.length ≤ 9223372036854775807) (h : View) (hpw : PowV h) (O : Hp) (hr : Rd h O a (p.log.flatMap shV)) (hr2 : Rd h O a2 (w.flatMap spV)) (hr3 : Rd h O a3 (l.map zI)) :
    GSpec Tryd.prog 3 [.agg ⟨plV p a c⟩, .slice a2 w.length c2, .slice a3 l.length c3] h O (Ret O (.bool true)) := by
  have e16 := fun O => f16 h hpw O
  have e17 := fun O => f17 p a c hl h O
  show GSpec Tryd.prog 3 [.agg ⟨[.int .i64 p.no, .int .i64 p.cell, .int .i64 p.noise, .int .i64 p.slab, .int .i64 p.jump, .int .i64 p.faults, .slice a p.log.length c]⟩, _, _] h O _
  by_cases hf : fewP p ∧ p.log.length ≤ 40
  · rw [decide_eq_true hf] at e17
    have e18 := fun O hr hr2 => f18 p w a a2 c c2 hl hw h O hr hr2
    have e19 := fun O hr hr2 => f19 p w a a2 c c2 hl hw hf.1 hcap hcap2 h O hr hr2
    have e20 := fun O hr hr2 hr3 => f20 p w l a a2 a3 c c2 c3 hl hw hll h O hr hr2 hr3
    have e21 := fun O hr hr2 hr3 => f21 p w l a a2 a3 c c2 c3 hl hw hll h O hr hr2 hr3
    have e22 := fun O hr hr2 hr3 => f22 p w l a a2 a3 c c2 c3 hl hw hll h O hr hr2 hr3
    have e23 := fun O hr hr2 hr3 => f23 p w l a a2 a3 c c2 c3 hl hw hll h O hr hr2 hr3
    obtain ⟨ab, ae, hT⟩ : ∃ b e, aliveT p w l = .tuple ⟨[.bool b, .int .i64 e]⟩ := ⟨_, _, rfl⟩
    rw [hT] at e20 e21
    have hcl := casesL_len p w
    have hol := loadO_in p w l
    unfold CasesR at e18 e19
    unfold LoadsR at e22 e23
    generalize casesL p w = L at *
    generalize casesE p w = E at *
    generalize loadO p w l = M at *
    generalize loadE p w l = F at *
    have e24 := fun b1 b2 c1 c2 O hr hr2 => f24 L L b1 b2 c1 c2 (by omega) (by omega) (fun i hi => by have := hcl.2 i hi; omega) (fun i hi => by have := hcl.2 i hi; omega) h O hr hr2
    have e25 := fun b1 b2 c1 c2 O hr hr2 => f25 M M b1 b2 c1 c2 (by omega) (by omega) hol.2 hol.2 h O hr hr2
    rw [decide_eq_true rfl] at e24 e25
    refine GSpec.enter (fn := Tryd.f3) Tryd.func3 rfl (by kernel_rfl) ?_
    repeat' (conv => whnf
             first
             | (((with_reducible refine CallSt.rd (f := 16) (X := .bool true) ?_ ?_); (· exact e16 _)))
             | (((with_reducible refine CallSt.rd (f := 17) (X := .bool true) ?_ ?_); (· exact e17 _)))
             | (((with_reducible refine CallSt.new (f := 18) (R := (fun v H => ∃ x, v = .tuple ⟨[x, .int .i64 E]⟩ ∧ LLR L x H)) ?_ ?_); (· exact e18 _ (by (repeat (first | with_reducible assumption | (with_reducible apply Buf.rd; with_reducible assumption) | (with_reducible apply Rd.appL; with_reducible assumption) | (with_reducible apply Rd.appL; with_reducible apply Buf.rd; with_reducible assumption) | (with_reducible apply Rd.ofH; with_reducible assumption) | (with_reducible apply Rd.ofH1; with_reducible assumption) | with_reducible apply Rd.cons | with_reducible apply Rd.appR))) (by (repeat (first | with_reducible assumption | (with_reducible apply Buf.rd; with_reducible assumption) | (with_reducible apply Rd.appL; with_reducible assumption) | (with_reducible apply Rd.appL; with_reducible apply Buf.rd; with_reducible assumption) | (with_reducible apply Rd.ofH; with_reducible assumption) | (with_reducible apply Rd.ofH1; with_reducible assumption) | with_reducible apply Rd.cons | with_reducible apply Rd.appR)))); rintro _ H1 ⟨_, rfl, la1, lc1, lvs1, rfl, lr1, lt1, ll1⟩))
             | (((with_reducible refine CallSt.new (f := 19) (R := (fun v H => ∃ x, v = .tuple ⟨[x, .int .i64 E]⟩ ∧ LLR L x H)) ?_ ?_); (· exact e19 _ (by (repeat (first | with_reducible assumption | (with_reducible apply Buf.rd; with_reducible assumption) | (with_reducible apply Rd.appL; with_reducible assumption) | (with_reducible apply Rd.appL; with_reducible apply Buf.rd; with_reducible assumption) | (with_reducible apply Rd.ofH; with_reducible assumption) | (with_reducible apply Rd.ofH1; with_reducible assumption) | with_reducible apply Rd.cons | with_reducible apply Rd.appR))) (by (repeat (first | with_reducible assumption | (with_reducible apply Buf.rd; with_reducible assumption) | (with_reducible apply Rd.appL; with_reducible assumption) | (with_reducible apply Rd.appL; with_reducible apply Buf.rd; with_reducible assumption) | (with_reducible apply Rd.ofH; with_reducible assumption) | (with_reducible apply Rd.ofH1; with_reducible assumption) | with_reducible apply Rd.cons | with_reducible apply Rd.appR)))); rintro _ H2 ⟨_, rfl, la2, lc2, lvs2, rfl, lr2, lt2, ll2⟩))
             | (((with_reducible refine CallSt.rd (f := 20) (X := .tuple ⟨[.bool ab, .int .i64 ae]⟩) ?_ ?_); (· exact e20 _ (by (repeat (first | with_reducible assumption | (with_reducible apply Buf.rd; with_reducible assumption) | (with_reducible apply Rd.appL; with_reducible assumption) | (with_reducible apply Rd.appL; with_reducible apply Buf.rd; with_reducible assumption) | (with_reducible apply Rd.ofH; with_reducible assumption) | (with_reducible apply Rd.ofH1; with_reducible assumption) | with_reducible apply Rd.cons | with_reducible apply Rd.appR))) (by (repeat (first | with_reducible assumption | (with_reducible apply Buf.rd; with_reducible assumption) | (with_reducible apply Rd.appL; with_reducible assumption) | (with_reducible apply Rd.appL; with_reducible apply Buf.rd; with_reducible assumption) | (with_reducible apply Rd.ofH; with_reducible assumption) | (with_reducible apply Rd.ofH1; with_reducible assumption) | with_reducible apply Rd.cons | with_reducible apply Rd.appR))) (by (repeat (first | with_reducible assumption | (with_reducible apply Buf.rd; with_reducible assumption) | (with_reducible apply Rd.appL; with_reducible assumption) | (with_reducible apply Rd.appL; with_reducible apply Buf.rd; with_reducible assumption) | (with_reducible apply Rd.ofH; with_reducible assumption) | (with_reducible apply Rd.ofH1; with_reducible assumption) | with_reducible apply Rd.cons | with_reducible apply Rd.appR))))))
             | (((with_reducible refine CallSt.rd (f := 21) (X := .tuple ⟨[.bool ab, .int .i64 ae]⟩) ?_ ?_); (· exact e21 _ (by (repeat (first | with_reducible assumption | (with_reducible apply Buf.rd; with_reducible assumption) | (with_reducible apply Rd.appL; with_reducible assumption) | (with_reducible apply Rd.appL; with_reducible apply Buf.rd; with_reducible assumption) | (with_reducible apply Rd.ofH; with_reducible assumption) | (with_reducible apply Rd.ofH1; with_reducible assumption) | with_reducible apply Rd.cons | with_reducible apply Rd.appR))) (by (repeat (first | with_reducible assumption | (with_reducible apply Buf.rd; with_reducible assumption) | (with_reducible apply Rd.appL; with_reducible assumption) | (with_reducible apply Rd.appL; with_reducible apply Buf.rd; with_reducible assumption) | (with_reducible apply Rd.ofH; with_reducible assumption) | (with_reducible apply Rd.ofH1; with_reducible assumption) | with_reducible apply Rd.cons | with_reducible apply Rd.appR))) (by (repeat (first | with_reducible assumption | (with_reducible apply Buf.rd; with_reducible assumption) | (with_reducible apply Rd.appL; with_reducible assumption) | (with_reducible apply Rd.appL; with_reducible apply Buf.rd; with_reducible assumption) | (with_reducible apply Rd.ofH; with_reducible assumption) | (with_reducible apply Rd.ofH1; with_reducible assumption) | with_reducible apply Rd.cons | with_reducible apply Rd.appR))))))
             | (((with_reducible refine CallSt.new (f := 22) (R := (fun v H => ∃ a c, v = .tuple ⟨[.slice a M.length c, .int .i64 F]⟩ ∧ RdH H a (M.flatMap spV) ∧ M.length ≤ c)) ?_ ?_); (· exact e22 _ (by (repeat (first | with_reducible assumption | (with_reducible apply Buf.rd; with_reducible assumption) | (with_reducible apply Rd.appL; with_reducible assumption) | (with_reducible apply Rd.appL; with_reducible apply Buf.rd; with_reducible assumption) | (with_reducible apply Rd.ofH; with_reducible assumption) | (with_reducible apply Rd.ofH1; with_reducible assumption) | with_reducible apply Rd.cons | with_reducible apply Rd.appR))) (by (repeat (first | with_reducible assumption | (with_reducible apply Buf.rd; with_reducible assumption) | (with_reducible apply Rd.appL; with_reducible assumption) | (with_reducible apply Rd.appL; with_reducible apply Buf.rd; with_reducible assumption) | (with_reducible apply Rd.ofH; with_reducible assumption) | (with_reducible apply Rd.ofH1; with_reducible assumption) | with_reducible apply Rd.cons | with_reducible apply Rd.appR))) (by (repeat (first | with_reducible assumption | (with_reducible apply Buf.rd; with_reducible assumption) | (with_reducible apply Rd.appL; with_reducible assumption) | (with_reducible apply Rd.appL; with_reducible apply Buf.rd; with_reducible assumption) | (with_reducible apply Rd.ofH; with_reducible assumption) | (with_reducible apply Rd.ofH1; with_reducible assumption) | with_reducible apply Rd.cons | with_reducible apply Rd.appR)))); rintro _ H3 ⟨ma1, mc1, rfl, mr1, ml1⟩))
             | (((with_reducible refine CallSt.new (f := 23) (R := (fun v H => ∃ a c, v = .tuple ⟨[.slice a M.length c, .int .i64 F]⟩ ∧ RdH H a (M.flatMap spV) ∧ M.length ≤ c)) ?_ ?_); (· exact e23 _ (by (repeat (first | with_reducible assumption | (with_reducible apply Buf.rd; with_reducible assumption) | (with_reducible apply Rd.appL; with_reducible assumption) | (with_reducible apply Rd.appL; with_reducible apply Buf.rd; with_reducible assumption) | (with_reducible apply Rd.ofH; with_reducible assumption) | (with_reducible apply Rd.ofH1; with_reducible assumption) | with_reducible apply Rd.cons | with_reducible apply Rd.appR))) (by (repeat (first | with_reducible assumption | (with_reducible apply Buf.rd; with_reducible assumption) | (with_reducible apply Rd.appL; with_reducible assumption) | (with_reducible apply Rd.appL; with_reducible apply Buf.rd; with_reducible assumption) | (with_reducible apply Rd.ofH; with_reducible assumption) | (with_reducible apply Rd.ofH1; with_reducible assumption) | with_reducible apply Rd.cons | with_reducible apply Rd.appR))) (by (repeat (first | with_reducible assumption | (with_reducible apply Buf.rd; with_reducible assumption) | (with_reducible apply Rd.appL; with_reducible assumption) | (with_reducible apply Rd.appL; with_reducible apply Buf.rd; with_reducible assumption) | (with_reducible apply Rd.ofH; with_reducible assumption) | (with_reducible apply Rd.ofH1; with_reducible assumption) | with_reducible apply Rd.cons | with_reducible apply Rd.appR)))); rintro _ H4 ⟨ma2, mc2, rfl, mr2, ml2⟩))
             | (((with_reducible refine CallSt.rd (f := 24) (X := .bool true) ?_ ?_); (· exact e24 la1 la2 lc1 lc2 _ (LLR.all lr1 lt1 (fun b o m => by (repeat (first | exact List.mem_append_left _ m | apply List.mem_cons_of_mem | apply List.mem_append_right)))) (LLR.all lr2 lt2 (fun b o m => by (repeat (first | exact List.mem_append_left _ m | apply List.mem_cons_of_mem | apply List.mem_append_right)))))))
             | (((with_reducible refine CallSt.rd (f := 25) (X := .bool true) ?_ ?_); (· exact e25 ma1 ma2 mc1 mc2 _ (by (repeat (first | with_reducible assumption | (with_reducible apply Buf.rd; with_reducible assumption) | (with_reducible apply Rd.appL; with_reducible assumption) | (with_reducible apply Rd.appL; with_reducible apply Buf.rd; with_reducible assumption) | (with_reducible apply Rd.ofH; with_reducible assumption) | (with_reducible apply Rd.ofH1; with_reducible assumption) | with_reducible apply Rd.cons | with_reducible apply Rd.appR))) (by (repeat (first | with_reducible assumption | (with_reducible apply Buf.rd; with_reducible assumption) | (with_reducible apply Rd.appL; with_reducible assumption) | (with_reducible apply Rd.appL; with_reducible apply Buf.rd; with_reducible assumption) | (with_reducible apply Rd.ofH; with_reducible assumption) | (with_reducible apply Rd.ofH1; with_reducible assumption) | with_reducible apply Rd.cons | with_reducible apply Rd.appR))))))
             | ((refine OnBB.yes (b := ab == ab) (beq_self_eq_true ab) ?_))
             | (with_reducible refine NextSt.mk ?_)
             | (with_reducible refine OnBB.tt ?_)
             | (with_reducible refine OnBB.ff ?_)
             | ((with_reducible apply Cmp.yes); · first | omega | (with_reducible assumption) | (with_reducible rfl))
             | ((with_reducible apply LoadSt.boxAgg); · (repeat (first | exact List.Mem.head _ | with_reducible apply List.mem_append_right | with_reducible apply List.mem_cons_of_mem)))
             | ((with_reducible refine AllocSt.mk ?_); intro _b _hb _hbO))
    conv => whnf
    refine FinSt.ret (by (try dsimp only); (try simp only [List.cons_append, List.nil_append]); (repeat (first | with_reducible exact List.Sublist.refl _ | with_reducible exact List.nil_sublist _ | with_reducible apply List.Sublist.cons_cons | with_reducible apply sub_app | apply List.Sublist.cons_cons | apply sub_app | with_reducible apply List.Sublist.cons | with_reducible apply sub_skip))) ?_
    rfl
  · rw [decide_eq_false hf] at e17
    refine GSpec.enter (fn := Tryd.f3) Tryd.func3 rfl (by kernel_rfl) ?_
    repeat' (conv => whnf
             first
             | (((with_reducible refine CallSt.rd (f := 16) (X := .bool true) ?_ ?_); (· exact e16 _)))
             | (((with_reducible refine CallSt.rd (f := 17) (X := .bool false) ?_ ?_); (· exact e17 _)))
             | (with_reducible refine NextSt.mk ?_)
             | (with_reducible refine OnBB.tt ?_)
             | (with_reducible refine OnBB.ff ?_)
             | ((with_reducible apply LoadSt.boxAgg); · (repeat (first | exact List.Mem.head _ | with_reducible apply List.mem_append_right | with_reducible apply List.mem_cons_of_mem)))
             | ((with_reducible refine AllocSt.mk ?_); intro _b _hb _hbO))
    conv => whnf
    refine FinSt.ret (by (try dsimp only); (try simp only [List.cons_append, List.nil_append]); (repeat (first | with_reducible exact List.Sublist.refl _ | with_reducible exact List.nil_sublist _ | with_reducible apply List.Sublist.cons_cons | with_reducible apply sub_app | apply List.Sublist.cons_cons | apply sub_app | with_reducible apply List.Sublist.cons | with_reducible apply sub_skip))) ?_
    rfl
end Go.Proofs.YtaahjlhfmkjefaaDoor
