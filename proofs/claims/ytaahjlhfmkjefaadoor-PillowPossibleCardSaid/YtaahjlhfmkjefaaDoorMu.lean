/- The law of what is possible. -/
import Derived.Test.YtaahjlhfmkjefaaDoorMs
import Derived.Test.YtaahjlhfmkjefaaDoorMt
set_option linter.unusedVariables false
set_option linter.unusedSimpArgs false
set_option linter.unusedSectionVars false
/- The law of what is possible: the walk. -/
namespace Go.Proofs.YtaahjlhfmkjefaaDoor
open Go Go.Gv
set_option maxRecDepth 100000
set_option maxHeartbeats 16000000
set_option linter.unusedSimpArgs false
set_option linter.unusedVariables false
theorem inW.sp {l : List Sp} (h : inW l) {i : Nat} (hi : i < l.length) : spW (l.getD i default) := by
  have := h.get hi
  unfold spW i64
  omega
theorem hullX_sp (p : Pl) (w : List Sp) (k : Int) : spW (hullX p w k) := by
  have hp := (pos_in p w k).1
  unfold hullX
  split
  · unfold spW i64; decide
  · have h1 := hp.get (i := 0) (by omega)
    have h2 := hp.get (i := (posL p w k).length - 1) (by omega)
    unfold spW i64
    simp only
    omega
theorem sureT_form (p : Pl) (w : List Sp) (k : Int) : ∃ s b e, sureT p w k = .tuple ⟨[.int .i64 s, .bool b, .int .i64 e]⟩ := by
  unfold sureT tup3
  split
  · exact ⟨_, _, _, rfl⟩
  · split
    · exact ⟨_, _, _, rfl⟩
    · split
      · exact ⟨_, _, _, rfl⟩
      · exact ⟨_, _, _, rfl⟩
theorem f4 (p : Pl) (w : List Sp) (k : Int) (a a2 : Option Addr) (c c2 : Nat) (hcap : p.log.length ≤ c) (hcap2 : w.length ≤ c2) (hl : p.log.length ≤ 9223372036854775807) (hw : w.length ≤ 9223372036854775807) (h : View) (hpw : PowV h) (O : Hp) (hr : Rd h O a (p.log.flatMap shV)) (hr2 : Rd h O a2 (w.flatMap spV)) :
    GSpec Tryd.prog 4 [.agg ⟨plV p a c⟩, .slice a2 w.length c2, .int .i64 k] h O (Ret O (.bool true)) := by
  have e16 := fun O => f16 h hpw O
  have e17 := fun O => f17 p a c hl h O
  show GSpec Tryd.prog 4 [.agg ⟨[.int .i64 p.no, .int .i64 p.cell, .int .i64 p.noise, .int .i64 p.slab, .int .i64 p.jump, .int .i64 p.faults, .slice a p.log.length c]⟩, _, _] h O _
  by_cases hf : fewP p ∧ p.log.length ≤ 40
  · rw [decide_eq_true hf] at e17
    have e26 := fun O hr hr2 => f26 p w k a a2 c c2 hl hw h O hr hr2
    have e27 := fun O hr hr2 => f27 p w k a a2 c c2 hl hw hf.1 hcap hcap2 h O hr hr2
    have e28 := fun O hr hr2 => f28 p w k a a2 c c2 hl hw h O hr hr2
    have e29 := fun O hr hr2 => f29 p w k a a2 c c2 hl hw hf.1 hcap hcap2 h O hr hr2
    have e30 := fun O hr hr2 => f30 p w k a a2 c c2 hl hw h O hr hr2
    have e31 := fun O hr hr2 => f31 p w k a a2 c c2 hl hw hf.1 hcap hcap2 h O hr hr2
    obtain ⟨ss, sb, se, hT⟩ := sureT_form p w k
    rw [hT] at e30 e31
    have hol := pos_in p w k
    have hX := hullX_sp p w k
    have hsp := fun i (hi : i < (posL p w k).length) => hol.1.sp hi
    unfold PosR at e26 e27
    unfold hullT at e28 e29
    generalize posL p w k = M at *
    generalize entE p w k = F at *
    generalize hullX p w k = X at *
    generalize hullE p w k = XE at *
    have e25 := fun b1 b2 c1 c2 O hr hr2 => f25 M M b1 b2 c1 c2 (by omega) (by omega) hsp hsp h O hr hr2
    rw [decide_eq_true rfl] at e25
    have hEq {K : Bool → Prop} (hK : K true) : EqSt Tryd.prog 42 (.agg ⟨spV X⟩) (.agg ⟨spV X⟩) K := eq42 hX hX (by rw [decide_eq_true rfl]; exact hK)
    refine GSpec.enter (fn := Tryd.f4) Tryd.func4 rfl (by kernel_rfl) ?_
    repeat' (conv => whnf
             first
             | (((with_reducible refine CallSt.rd (f := 16) (X := .bool true) ?_ ?_); (· exact e16 _)))
             | (((with_reducible refine CallSt.rd (f := 17) (X := .bool true) ?_ ?_); (· exact e17 _)))
             | (((with_reducible refine CallSt.new (f := 26) (R := (fun v H => ∃ x, v = .tuple ⟨[x, .int .i64 F]⟩ ∧ LsR spV M x H)) ?_ ?_); (· exact e26 _ (by (repeat (first | with_reducible assumption | (with_reducible apply Buf.rd; with_reducible assumption) | (with_reducible apply Rd.appL; with_reducible assumption) | (with_reducible apply Rd.appL; with_reducible apply Buf.rd; with_reducible assumption) | (with_reducible apply Rd.ofH; with_reducible assumption) | (with_reducible apply Rd.ofH1; with_reducible assumption) | with_reducible apply Rd.cons | with_reducible apply Rd.appR))) (by (repeat (first | with_reducible assumption | (with_reducible apply Buf.rd; with_reducible assumption) | (with_reducible apply Rd.appL; with_reducible assumption) | (with_reducible apply Rd.appL; with_reducible apply Buf.rd; with_reducible assumption) | (with_reducible apply Rd.ofH; with_reducible assumption) | (with_reducible apply Rd.ofH1; with_reducible assumption) | with_reducible apply Rd.cons | with_reducible apply Rd.appR)))); rintro _ H1 ⟨_, rfl, ma1, mc1, rfl, mr1, ml1⟩))
             | (((with_reducible refine CallSt.new (f := 27) (R := (fun v H => ∃ x, v = .tuple ⟨[x, .int .i64 F]⟩ ∧ LsR spV M x H)) ?_ ?_); (· exact e27 _ (by (repeat (first | with_reducible assumption | (with_reducible apply Buf.rd; with_reducible assumption) | (with_reducible apply Rd.appL; with_reducible assumption) | (with_reducible apply Rd.appL; with_reducible apply Buf.rd; with_reducible assumption) | (with_reducible apply Rd.ofH; with_reducible assumption) | (with_reducible apply Rd.ofH1; with_reducible assumption) | with_reducible apply Rd.cons | with_reducible apply Rd.appR))) (by (repeat (first | with_reducible assumption | (with_reducible apply Buf.rd; with_reducible assumption) | (with_reducible apply Rd.appL; with_reducible assumption) | (with_reducible apply Rd.appL; with_reducible apply Buf.rd; with_reducible assumption) | (with_reducible apply Rd.ofH; with_reducible assumption) | (with_reducible apply Rd.ofH1; with_reducible assumption) | with_reducible apply Rd.cons | with_reducible apply Rd.appR)))); rintro _ H2 ⟨_, rfl, ma2, mc2, rfl, mr2, ml2⟩))
             | (((with_reducible refine CallSt.rd (f := 28) (X := .tuple ⟨[.agg ⟨spV X⟩, .int .i64 XE]⟩) ?_ ?_); (· exact e28 _ (by (repeat (first | with_reducible assumption | (with_reducible apply Buf.rd; with_reducible assumption) | (with_reducible apply Rd.appL; with_reducible assumption) | (with_reducible apply Rd.appL; with_reducible apply Buf.rd; with_reducible assumption) | (with_reducible apply Rd.ofH; with_reducible assumption) | (with_reducible apply Rd.ofH1; with_reducible assumption) | with_reducible apply Rd.cons | with_reducible apply Rd.appR))) (by (repeat (first | with_reducible assumption | (with_reducible apply Buf.rd; with_reducible assumption) | (with_reducible apply Rd.appL; with_reducible assumption) | (with_reducible apply Rd.appL; with_reducible apply Buf.rd; with_reducible assumption) | (with_reducible apply Rd.ofH; with_reducible assumption) | (with_reducible apply Rd.ofH1; with_reducible assumption) | with_reducible apply Rd.cons | with_reducible apply Rd.appR))))))
             | (((with_reducible refine CallSt.rd (f := 29) (X := .tuple ⟨[.agg ⟨spV X⟩, .int .i64 XE]⟩) ?_ ?_); (· exact e29 _ (by (repeat (first | with_reducible assumption | (with_reducible apply Buf.rd; with_reducible assumption) | (with_reducible apply Rd.appL; with_reducible assumption) | (with_reducible apply Rd.appL; with_reducible apply Buf.rd; with_reducible assumption) | (with_reducible apply Rd.ofH; with_reducible assumption) | (with_reducible apply Rd.ofH1; with_reducible assumption) | with_reducible apply Rd.cons | with_reducible apply Rd.appR))) (by (repeat (first | with_reducible assumption | (with_reducible apply Buf.rd; with_reducible assumption) | (with_reducible apply Rd.appL; with_reducible assumption) | (with_reducible apply Rd.appL; with_reducible apply Buf.rd; with_reducible assumption) | (with_reducible apply Rd.ofH; with_reducible assumption) | (with_reducible apply Rd.ofH1; with_reducible assumption) | with_reducible apply Rd.cons | with_reducible apply Rd.appR))))))
             | (((with_reducible refine CallSt.rd (f := 30) (X := .tuple ⟨[.int .i64 ss, .bool sb, .int .i64 se]⟩) ?_ ?_); (· exact e30 _ (by (repeat (first | with_reducible assumption | (with_reducible apply Buf.rd; with_reducible assumption) | (with_reducible apply Rd.appL; with_reducible assumption) | (with_reducible apply Rd.appL; with_reducible apply Buf.rd; with_reducible assumption) | (with_reducible apply Rd.ofH; with_reducible assumption) | (with_reducible apply Rd.ofH1; with_reducible assumption) | with_reducible apply Rd.cons | with_reducible apply Rd.appR))) (by (repeat (first | with_reducible assumption | (with_reducible apply Buf.rd; with_reducible assumption) | (with_reducible apply Rd.appL; with_reducible assumption) | (with_reducible apply Rd.appL; with_reducible apply Buf.rd; with_reducible assumption) | (with_reducible apply Rd.ofH; with_reducible assumption) | (with_reducible apply Rd.ofH1; with_reducible assumption) | with_reducible apply Rd.cons | with_reducible apply Rd.appR))))))
             | (((with_reducible refine CallSt.rd (f := 31) (X := .tuple ⟨[.int .i64 ss, .bool sb, .int .i64 se]⟩) ?_ ?_); (· exact e31 _ (by (repeat (first | with_reducible assumption | (with_reducible apply Buf.rd; with_reducible assumption) | (with_reducible apply Rd.appL; with_reducible assumption) | (with_reducible apply Rd.appL; with_reducible apply Buf.rd; with_reducible assumption) | (with_reducible apply Rd.ofH; with_reducible assumption) | (with_reducible apply Rd.ofH1; with_reducible assumption) | with_reducible apply Rd.cons | with_reducible apply Rd.appR))) (by (repeat (first | with_reducible assumption | (with_reducible apply Buf.rd; with_reducible assumption) | (with_reducible apply Rd.appL; with_reducible assumption) | (with_reducible apply Rd.appL; with_reducible apply Buf.rd; with_reducible assumption) | (with_reducible apply Rd.ofH; with_reducible assumption) | (with_reducible apply Rd.ofH1; with_reducible assumption) | with_reducible apply Rd.cons | with_reducible apply Rd.appR))))))
             | (((with_reducible refine CallSt.rd (f := 25) (X := .bool true) ?_ ?_); (· exact e25 ma1 ma2 mc1 mc2 _ (by (repeat (first | with_reducible assumption | (with_reducible apply Buf.rd; with_reducible assumption) | (with_reducible apply Rd.appL; with_reducible assumption) | (with_reducible apply Rd.appL; with_reducible apply Buf.rd; with_reducible assumption) | (with_reducible apply Rd.ofH; with_reducible assumption) | (with_reducible apply Rd.ofH1; with_reducible assumption) | with_reducible apply Rd.cons | with_reducible apply Rd.appR))) (by (repeat (first | with_reducible assumption | (with_reducible apply Buf.rd; with_reducible assumption) | (with_reducible apply Rd.appL; with_reducible assumption) | (with_reducible apply Rd.appL; with_reducible apply Buf.rd; with_reducible assumption) | (with_reducible apply Rd.ofH; with_reducible assumption) | (with_reducible apply Rd.ofH1; with_reducible assumption) | with_reducible apply Rd.cons | with_reducible apply Rd.appR))))))
             | ((refine hEq ?_))
             | ((refine OnBB.yes (b := sb == sb) (beq_self_eq_true sb) ?_))
             | (with_reducible refine NextSt.mk ?_)
             | (with_reducible refine OnBB.tt ?_)
             | (with_reducible refine OnBB.ff ?_)
             | ((with_reducible apply Cmp.yes); · first | omega | (with_reducible assumption) | (with_reducible rfl))
             | ((with_reducible apply LoadSt.boxAgg); · (repeat (first | exact List.Mem.head _ | with_reducible apply List.mem_append_right | with_reducible apply List.mem_cons_of_mem)))
             | ((with_reducible refine AllocSt.mk ?_); intro _b _hb _hbO)
             | ((with_reducible apply StoreSt.box); (· (repeat (first | exact Upd.hd | apply Upd.tl | apply Upd.app))); (· rfl); (· rfl); (· rfl)))
    conv => whnf
    refine FinSt.ret (by (try dsimp only); (try simp only [List.cons_append, List.nil_append]); (repeat (first | with_reducible exact List.Sublist.refl _ | with_reducible exact List.nil_sublist _ | with_reducible apply List.Sublist.cons_cons | with_reducible apply sub_app | apply List.Sublist.cons_cons | apply sub_app | with_reducible apply List.Sublist.cons | with_reducible apply sub_skip))) ?_
    rfl
  · rw [decide_eq_false hf] at e17
    refine GSpec.enter (fn := Tryd.f4) Tryd.func4 rfl (by kernel_rfl) ?_
    repeat' (conv => whnf
             first
             | (((with_reducible refine CallSt.rd (f := 16) (X := .bool true) ?_ ?_); (· exact e16 _)))
             | (((with_reducible refine CallSt.rd (f := 17) (X := .bool false) ?_ ?_); (· exact e17 _)))
             | (with_reducible refine NextSt.mk ?_)
             | (with_reducible refine OnBB.tt ?_)
             | (with_reducible refine OnBB.ff ?_)
             | ((with_reducible apply LoadSt.boxAgg); · (repeat (first | exact List.Mem.head _ | with_reducible apply List.mem_append_right | with_reducible apply List.mem_cons_of_mem)))
             | ((with_reducible refine AllocSt.mk ?_); intro _b _hb _hbO))
    conv => whnf
    refine FinSt.ret (by (try dsimp only); (try simp only [List.cons_append, List.nil_append]); (repeat (first | with_reducible exact List.Sublist.refl _ | with_reducible exact List.nil_sublist _ | with_reducible apply List.Sublist.cons_cons | with_reducible apply sub_app | apply List.Sublist.cons_cons | apply sub_app | with_reducible apply List.Sublist.cons | with_reducible apply sub_skip))) ?_
    rfl
end Go.Proofs.YtaahjlhfmkjefaaDoor
