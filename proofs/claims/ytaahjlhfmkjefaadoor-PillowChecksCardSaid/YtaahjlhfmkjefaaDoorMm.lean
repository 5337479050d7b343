/- The law of what checks. -/
import Derived.Test.YtaahjlhfmkjefaaDoorMl
set_option linter.unusedVariables false
set_option linter.unusedSimpArgs false
set_option linter.unusedSectionVars false
/- The law of what checks: the walk. -/
namespace Go.Proofs.YtaahjlhfmkjefaaDoor
open Go Go.Gv
set_option maxRecDepth 100000
set_option maxHeartbeats 16000000
set_option linter.unusedSimpArgs false
set_option linter.unusedVariables false
theorem addV_len (p : Pl) (s : Sh) : (addV p s).1.log.length ≤ 33 := by
  unfold addV
  split
  · rename_i hp
    have := hp.1.2.2.2.2.2.2
    split
    · exact Nat.zero_le _
    · split
      · simp only [addE, List.length_append, List.length_singleton]; omega
      · exact Nat.zero_le _
  · exact Nat.zero_le _
theorem addV_in {p : Pl} {s : Sh} (hs : shW s) (hp : ∀ i < p.log.length, shW (p.log.getD i default)) : ∀ i < (addV p s).1.log.length, shW ((addV p s).1.log.getD i default) := by
  have h0 : ∀ i < nilP.log.length, shW (nilP.log.getD i default) := fun i hi => by cases hi
  unfold addV
  split
  · split
    · exact h0
    · split
      · intro i hi
        simp only [addE, List.length_append, List.length_singleton] at hi ⊢
        by_cases hl : i < p.log.length
        · rw [List.getD_eq_getElem?_getD, List.getElem?_append_left hl, ← List.getD_eq_getElem?_getD]; exact hp i hl
        · rw [List.getD_eq_getElem?_getD, List.getElem?_append_right (by omega), show i - p.log.length = 0 by omega]; exact hs
      · exact h0
  · exact h0
theorem shiftT_form (p : Pl) (n : Int) : ∃ b e, shiftT p n = .tuple ⟨[.bool b, .int .i64 e]⟩ := by
  unfold shiftT
  split
  · split
    · exact ⟨_, _, rfl⟩
    · exact ⟨_, _, rfl⟩
  · exact ⟨_, _, rfl⟩
theorem f12 (p : Pl) (l : List Int) (n : Int) (s : Sh) (a a3 : Option Addr) (c c3 : Nat) (hn : i64 n) (hs : shW s) (hin : ∀ i < p.log.length, shW (p.log.getD i default)) (hcap : p.log.length ≤ c) (hl : p.log.length ≤ 9223372036854775807) (hll : l.length ≤ 9223372036854775807) (h : View) (hpw : PowV h) (O : Hp) (hr : Rd h O a (p.log.flatMap shV)) (hr3 : Rd h O a3 (l.map zI)) :
    GSpec Tryd.prog 12 [.agg ⟨plV p a c⟩, .slice a3 l.length c3, .int .i64 n, .agg ⟨shV s⟩] h O (Ret O (.bool true)) := by
  have e16 := fun O => f16 h hpw O
  have e42 := fun O hr => f42 p n a c hl h O hr
  have e43 := fun O hr => f43 p n a c hl h O hr
  have e39 := fun O hr => f39 p s a c hcap hl h O hr
  have e44 := fun O hr => f44 p s a c hl h O hr
  have e45 := fun O hr => f45 p a c hl h O hr
  have e46 := fun O hr => f46 p a c hl h O hr
  have e38 := fun O hr hr3 => f38 p l a a3 c c3 hl hll h O hr hr3
  have e47 := fun O hr hr3 => f47 p l a a3 c c3 hl hll h O hr hr3
  have hq := addV_len p s
  have e48 := fun a1 c1 a2 c2 O hr hr2 => f48 (addV p s).1 (addV p s).1 a1 a2 c1 c2 (by omega) (by omega) (addV_in hs hin) (addV_in hs hin) h O hr hr2
  rw [decide_eq_true rfl] at e48
  obtain ⟨sb, se, hT⟩ := shiftT_form p n
  rw [hT] at e42 e43
  show GSpec Tryd.prog 12 [.agg ⟨[.int .i64 p.no, .int .i64 p.cell, .int .i64 p.noise, .int .i64 p.slab, .int .i64 p.jump, .int .i64 p.faults, .slice a p.log.length c]⟩, _, _, .agg ⟨[.int .i64 s.day, .int .i64 s.wt]⟩] h O _
  refine GSpec.enter (fn := Tryd.f12) Tryd.func12 rfl (by kernel_rfl) ?_
  repeat' (conv => whnf
           first
           | (((with_reducible refine CallSt.rd (f := 16) (X := .bool true) ?_ ?_); (· exact e16 _)))
           | (((with_reducible refine CallSt.rd (f := 42) (X := .tuple ⟨[.bool sb, .int .i64 se]⟩) ?_ ?_); (· exact e42 _ (by (repeat (first | with_reducible assumption | (with_reducible apply Buf.rd; with_reducible assumption) | (with_reducible apply Rd.appL; with_reducible assumption) | (with_reducible apply Rd.appL; with_reducible apply Buf.rd; with_reducible assumption) | (with_reducible apply Rd.ofH; with_reducible assumption) | (with_reducible apply Rd.ofH1; with_reducible assumption) | with_reducible apply Rd.cons | with_reducible apply Rd.appR))))))
           | (((with_reducible refine CallSt.rd (f := 43) (X := .tuple ⟨[.bool sb, .int .i64 se]⟩) ?_ ?_); (· exact e43 _ (by (repeat (first | with_reducible assumption | (with_reducible apply Buf.rd; with_reducible assumption) | (with_reducible apply Rd.appL; with_reducible assumption) | (with_reducible apply Rd.appL; with_reducible apply Buf.rd; with_reducible assumption) | (with_reducible apply Rd.ofH; with_reducible assumption) | (with_reducible apply Rd.ofH1; with_reducible assumption) | with_reducible apply Rd.cons | with_reducible apply Rd.appR))))))
           | (((with_reducible refine CallSt.new (f := 39) (R := (AddR p s)) ?_ ?_); (· exact e39 _ (by (repeat (first | with_reducible assumption | (with_reducible apply Buf.rd; with_reducible assumption) | (with_reducible apply Rd.appL; with_reducible assumption) | (with_reducible apply Rd.appL; with_reducible apply Buf.rd; with_reducible assumption) | (with_reducible apply Rd.ofH; with_reducible assumption) | (with_reducible apply Rd.ofH1; with_reducible assumption) | with_reducible apply Rd.cons | with_reducible apply Rd.appR)))); rintro _ H1 ⟨a1, c1, rfl, hr1⟩))
           | (((with_reducible refine CallSt.new (f := 44) (R := (AddR p s)) ?_ ?_); (· exact e44 _ (by (repeat (first | with_reducible assumption | (with_reducible apply Buf.rd; with_reducible assumption) | (with_reducible apply Rd.appL; with_reducible assumption) | (with_reducible apply Rd.appL; with_reducible apply Buf.rd; with_reducible assumption) | (with_reducible apply Rd.ofH; with_reducible assumption) | (with_reducible apply Rd.ofH1; with_reducible assumption) | with_reducible apply Rd.cons | with_reducible apply Rd.appR)))); rintro _ H2 ⟨a2, c2, rfl, hr2⟩))
           | (((with_reducible refine CallG.rd (f := 45) (X := .int .i64 (chkP p)) ?_ ?_); (· exact e45 _ (by (repeat (first | with_reducible assumption | (with_reducible apply Buf.rd; with_reducible assumption) | (with_reducible apply Rd.appL; with_reducible assumption) | (with_reducible apply Rd.appL; with_reducible apply Buf.rd; with_reducible assumption) | (with_reducible apply Rd.ofH; with_reducible assumption) | (with_reducible apply Rd.ofH1; with_reducible assumption) | with_reducible apply Rd.cons | with_reducible apply Rd.appR))))))
           | (((with_reducible refine CallG.rd (f := 46) (X := .int .i64 (chkP p)) ?_ ?_); (· exact e46 _ (by (repeat (first | with_reducible assumption | (with_reducible apply Buf.rd; with_reducible assumption) | (with_reducible apply Rd.appL; with_reducible assumption) | (with_reducible apply Rd.appL; with_reducible apply Buf.rd; with_reducible assumption) | (with_reducible apply Rd.ofH; with_reducible assumption) | (with_reducible apply Rd.ofH1; with_reducible assumption) | with_reducible apply Rd.cons | with_reducible apply Rd.appR))))))
           | (((with_reducible refine CallG.rd (f := 38) (X := .int .i64 (caseV p l)) ?_ ?_); (· exact e38 _ (by (repeat (first | with_reducible assumption | (with_reducible apply Buf.rd; with_reducible assumption) | (with_reducible apply Rd.appL; with_reducible assumption) | (with_reducible apply Rd.appL; with_reducible apply Buf.rd; with_reducible assumption) | (with_reducible apply Rd.ofH; with_reducible assumption) | (with_reducible apply Rd.ofH1; with_reducible assumption) | with_reducible apply Rd.cons | with_reducible apply Rd.appR))) (by (repeat (first | with_reducible assumption | (with_reducible apply Buf.rd; with_reducible assumption) | (with_reducible apply Rd.appL; with_reducible assumption) | (with_reducible apply Rd.appL; with_reducible apply Buf.rd; with_reducible assumption) | (with_reducible apply Rd.ofH; with_reducible assumption) | (with_reducible apply Rd.ofH1; with_reducible assumption) | with_reducible apply Rd.cons | with_reducible apply Rd.appR))))))
           | (((with_reducible refine CallG.rd (f := 47) (X := .int .i64 (caseV p l)) ?_ ?_); (· exact e47 _ (by (repeat (first | with_reducible assumption | (with_reducible apply Buf.rd; with_reducible assumption) | (with_reducible apply Rd.appL; with_reducible assumption) | (with_reducible apply Rd.appL; with_reducible apply Buf.rd; with_reducible assumption) | (with_reducible apply Rd.ofH; with_reducible assumption) | (with_reducible apply Rd.ofH1; with_reducible assumption) | with_reducible apply Rd.cons | with_reducible apply Rd.appR))) (by (repeat (first | with_reducible assumption | (with_reducible apply Buf.rd; with_reducible assumption) | (with_reducible apply Rd.appL; with_reducible assumption) | (with_reducible apply Rd.appL; with_reducible apply Buf.rd; with_reducible assumption) | (with_reducible apply Rd.ofH; with_reducible assumption) | (with_reducible apply Rd.ofH1; with_reducible assumption) | with_reducible apply Rd.cons | with_reducible apply Rd.appR))))))
           | (((with_reducible refine CallG.rd (f := 48) (X := .bool true) ?_ ?_); (· exact e48 a1 c1 a2 c2 _ (by (repeat (first | with_reducible assumption | (with_reducible apply Buf.rd; with_reducible assumption) | (with_reducible apply Rd.appL; with_reducible assumption) | (with_reducible apply Rd.appL; with_reducible apply Buf.rd; with_reducible assumption) | (with_reducible apply Rd.ofH; with_reducible assumption) | (with_reducible apply Rd.ofH1; with_reducible assumption) | with_reducible apply Rd.cons | with_reducible apply Rd.appR))) (by (repeat (first | with_reducible assumption | (with_reducible apply Buf.rd; with_reducible assumption) | (with_reducible apply Rd.appL; with_reducible assumption) | (with_reducible apply Rd.appL; with_reducible apply Buf.rd; with_reducible assumption) | (with_reducible apply Rd.ofH; with_reducible assumption) | (with_reducible apply Rd.ofH1; with_reducible assumption) | with_reducible apply Rd.cons | with_reducible apply Rd.appR))))))
           | ((refine OnBB.yes (b := sb == sb) (beq_self_eq_true sb) ?_))
           | ((with_reducible refine DrawSt.walk [0, 2, 1, 3, 4, 5, 6, 7, 9, 10, 8, 11, 12, 13, 14, 15, 16, 17, 18, 19, 20, 21, 22, 23, 24, 25, 26, 27, 28, 29, 30, 31, 32, 33, 34] mixed ?_ ?_); · decide +kernel)
           | (with_reducible refine NextSt.mk ?_)
           | (with_reducible refine OnBB.tt ?_)
           | (with_reducible refine OnBB.ff ?_)
           | ((with_reducible apply Cmp.yes); · first | omega | (with_reducible assumption) | (with_reducible rfl))
           | ((with_reducible apply LoadSt.boxAgg); · (repeat (first | exact List.Mem.head _ | with_reducible apply List.mem_append_right | with_reducible apply List.mem_cons_of_mem)))
           | ((with_reducible refine AllocSt.mk ?_); intro _b _hb _hbO)
           | ((with_reducible apply StoreSt.box); (· (repeat (first | exact Upd.hd | apply Upd.tl | apply Upd.app))); (· rfl); (· rfl); (· rfl)))
  conv => whnf
  refine FinSt.ret (by (try dsimp only); (try simp only [List.cons_append, List.nil_append]); (repeat (first | with_reducible exact List.Sublist.refl _ | with_reducible exact List.nil_sublist _ | with_reducible apply List.Sublist.cons_cons | with_reducible apply sub_app | apply List.Sublist.cons_cons | apply sub_app | with_reducible apply List.Sublist.cons | with_reducible apply sub_skip))) ?_
  rfl
end Go.Proofs.YtaahjlhfmkjefaaDoor
