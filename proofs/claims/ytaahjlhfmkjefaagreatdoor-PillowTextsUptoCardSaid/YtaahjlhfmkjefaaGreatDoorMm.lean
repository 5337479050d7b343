/- The law of the texts. -/
import Derived.Test.YtaahjlhfmkjefaaGreatDoorMl
import Derived.Test.YtaahjlhfmkjefaaGreatDoorMi
set_option linter.unusedVariables false
set_option linter.unusedSimpArgs false
set_option linter.unusedSectionVars false
/- The law of the texts. -/
namespace Go.Proofs.YtaahjlhfmkjefaaGreatDoor
open Go Go.Gv
set_option maxRecDepth 100000
set_option maxHeartbeats 8000000
set_option linter.unusedSimpArgs false
set_option linter.unusedVariables false
def PR (q : Pl) (e : Int) (v : Value) (H : Hp) : Prop := ∃ a c, v = .tuple ⟨[.agg ⟨[.int .i64 q.no, .int .i64 q.cell, .int .i64 q.noise, .int .i64 q.slab, .int .i64 q.jump, .int .i64 q.faults, .slice a q.log.length c]⟩, .int .i64 e]⟩ ∧ RdH H a (q.log.flatMap shV)
theorem ok_shW {p : Pl} (h : pOk p) : ∀ i < p.log.length, shW (p.log.getD i default) := fun i hi => by
  have := h.2 i hi
  unfold logOk at this
  unfold shW i64
  omega
theorem par_shW (s : List UInt8) : (∀ i < (parP s).log.length, shW ((parP s).log.getD i default)) ∧ (parP s).log.length ≤ 32 := by
  unfold parP
  cases e : parV s with
  | none => exact ⟨fun i hi => by simp [zeroP] at hi, by simp [zeroP]⟩
  | some p =>
    have hp := (parV_some.1 e).1
    exact ⟨ok_shW hp, hp.1.2.2.2.2.2.2⟩
theorem y3 (p : Pl) (s : List UInt8) (a : Option Addr) (c : Nat) (hs : s.length ≤ 1048576) (hl : p.log.length ≤ 9223372036854775807) (hi : ∀ i < p.log.length, shW (p.log.getD i default)) (h : View) (hx : VarV h) (hpw : PowV h) (O : Hp) (hr : Rd h O a (p.log.flatMap shV)) :
    GSpec Tryz.prog 3 [.agg ⟨plV p a c⟩, sV s] h O (Ret O (.bool true)) := by
  have e4 := fun O => f16 h hpw O
  have e5 := fun O hr => f57 p a c hl h hpw O hr
  have e6 := fun O hr => y6 p a c hl h O hr
  have hpl : plV p a c = [.int .i64 p.no, .int .i64 p.cell, .int .i64 p.noise, .int .i64 p.slab, .int .i64 p.jump, .int .i64 p.faults, .slice a p.log.length c] := rfl
  rw [hpl] at e5 e6
  show GSpec Tryz.prog 3 [.agg ⟨[.int .i64 p.no, .int .i64 p.cell, .int .i64 p.noise, .int .i64 p.slab, .int .i64 p.jump, .int .i64 p.faults, .slice a p.log.length c]⟩, _] h O _
  have e7 : ∀ O, GSpec Tryz.prog 7 [sV s] h O (New O (PR (parP s) (parE s))) := fun O => y7 s hs h hx hpw O
  have e8 : ∀ O, GSpec Tryz.prog 8 [sV s] h O (New O (PR (parP s) (parE s))) := fun O => y8 s hs h O
  obtain ⟨hqi, hql⟩ := par_shW s
  have e9 := fun a1 a2 c1 c2 O hr hr2 => f48 (parP s) (parP s) a1 a2 c1 c2 (by omega) (by omega) hqi hqi h O hr hr2
  have e5q := fun a1 c1 O hr => f57 (parP s) a1 c1 (by omega) h hpw O hr
  have hqpl : ∀ a1 c1, plV (parP s) a1 c1 = [.int .i64 (parP s).no, .int .i64 (parP s).cell, .int .i64 (parP s).noise, .int .i64 (parP s).slab, .int .i64 (parP s).jump, .int .i64 (parP s).faults, .slice a1 (parP s).log.length c1] := fun _ _ => rfl
  simp only [hqpl] at e9 e5q
  simp only [decide_true] at e9
  have hcase : (parE s = 3) ∨ (parE s = 0 ∧ prT (parP s) = .tuple ⟨[sV s, .int .i64 0]⟩) := by
    cases e : parV s with
    | none => exact .inl (by unfold parE; rw [e]; rfl)
    | some q =>
      refine .inr ⟨by unfold parE; rw [e]; rfl, ?_⟩
      obtain ⟨h1, h2⟩ := parV_some.1 e
      have h3 : parP s = q := by unfold parP; rw [e]; rfl
      rw [h3]
      unfold prT
      rw [show chkP q = 0 from if_pos h1, if_pos rfl, h2]
  clear hqpl
  generalize parP s = q at *
  generalize parE s = e at *
  by_cases hp : pOk p
  · have hpt : prT p = .tuple ⟨[sV (prV p), .int .i64 0]⟩ := by unfold prT; rw [show chkP p = 0 from if_pos hp]; rfl
    rw [hpt] at e5 e6
    have hpv : parV (prV p) = some p := parV_some.2 ⟨hp, rfl⟩
    have e7b : ∀ O, GSpec Tryz.prog 7 [sV (prV p)] h O (New O (PR p 0)) := fun O => by
      have h1 : parP (prV p) = p := by unfold parP; rw [hpv]; rfl
      have h2 : parE (prV p) = 0 := by unfold parE; rw [hpv]; rfl
      have := y7 (prV p) (by have := pr_len hp; omega) h hx hpw O
      unfold ParR at this
      rw [h1, h2] at this
      exact this
    have e9b := fun a1 c1 O hr1 hr2 => f48 p p a1 a c1 c hl hl hi hi h O hr1 hr2
    have hpl2 : ∀ a1 c1, plV p a1 c1 = [.int .i64 p.no, .int .i64 p.cell, .int .i64 p.noise, .int .i64 p.slab, .int .i64 p.jump, .int .i64 p.faults, .slice a1 p.log.length c1] := fun _ _ => rfl
    simp only [hpl2, decide_true] at e9b
    clear hpv hpt hpl hpl2
    generalize prV p = P at *
    rcases hcase with rfl | ⟨rfl, hqt⟩
    · clear e5q
      refine GSpec.enter (fn := Tryz.f3) Tryz.func3 rfl (by kernel_rfl) ?_
      repeat' (conv => whnf
               first
               | (((with_reducible refine CallSt.rd (f := 4) (X := .bool true) ?_ ?_); (· exact e4 _)))
               | (((with_reducible refine CallSt.rd (f := 5) (X := .tuple ⟨[sV P, .int .i64 0]⟩) ?_ ?_); (· (apply GSpec.cast (sp := e5 _ (by (repeat (first | with_reducible assumption | (with_reducible apply Buf.rd; with_reducible assumption) | (with_reducible apply Rd.appL; with_reducible assumption) | (with_reducible apply Rd.appL; with_reducible apply Buf.rd; with_reducible assumption) | (with_reducible apply Rd.ofH; with_reducible assumption) | (with_reducible apply Rd.ofH1; with_reducible assumption) | with_reducible apply Rd.cons | with_reducible apply Rd.appR)))); (· (repeat' (first | with_reducible rfl | refine congrArg₂ List.cons ?_ ?_ | exact iN_lit _ | rfl)))))))
               | (((with_reducible refine CallSt.rd (f := 6) (X := .tuple ⟨[sV P, .int .i64 0]⟩) ?_ ?_); (· exact e6 _ (by (repeat (first | with_reducible assumption | (with_reducible apply Buf.rd; with_reducible assumption) | (with_reducible apply Rd.appL; with_reducible assumption) | (with_reducible apply Rd.appL; with_reducible apply Buf.rd; with_reducible assumption) | (with_reducible apply Rd.ofH; with_reducible assumption) | (with_reducible apply Rd.ofH1; with_reducible assumption) | with_reducible apply Rd.cons | with_reducible apply Rd.appR))))))
               | (((with_reducible refine CallSt.new (f := 7) (R := (PR q 3)) ?_ ?_); (· (apply GSpec.cast (sp := e7 _); (· (repeat' (first | with_reducible rfl | refine congrArg₂ List.cons ?_ ?_ | exact iN_lit _ | rfl))))); rintro _ H1 ⟨a1, c1, rfl, r1⟩))
               | (((with_reducible refine CallSt.new (f := 8) (R := (PR q 3)) ?_ ?_); (· exact e8 _); rintro _ H2 ⟨a2, c2, rfl, r2⟩))
               | (((with_reducible apply Cmp.no); · exact fun h => h rfl))
               | (((with_reducible refine CallSt.rd (f := 9) (X := .bool true) ?_ ?_); (· (apply GSpec.cast (sp := e9 a1 a2 c1 c2 _ (by (repeat (first | with_reducible assumption | (with_reducible apply Buf.rd; with_reducible assumption) | (with_reducible apply Rd.appL; with_reducible assumption) | (with_reducible apply Rd.appL; with_reducible apply Buf.rd; with_reducible assumption) | (with_reducible apply Rd.ofH; with_reducible assumption) | (with_reducible apply Rd.ofH1; with_reducible assumption) | with_reducible apply Rd.cons | with_reducible apply Rd.appR))) (by (repeat (first | with_reducible assumption | (with_reducible apply Buf.rd; with_reducible assumption) | (with_reducible apply Rd.appL; with_reducible assumption) | (with_reducible apply Rd.appL; with_reducible apply Buf.rd; with_reducible assumption) | (with_reducible apply Rd.ofH; with_reducible assumption) | (with_reducible apply Rd.ofH1; with_reducible assumption) | with_reducible apply Rd.cons | with_reducible apply Rd.appR)))); (· (repeat' (first | with_reducible rfl | refine congrArg₂ List.cons ?_ ?_ | exact iN_lit _ | rfl)))))))
               | (with_reducible refine NextSt.mk ?_)
               | (with_reducible refine OnBB.tt ?_)
               | (with_reducible refine OnBB.ff ?_)
               | ((with_reducible apply Cmp.yes); · first | omega | (with_reducible assumption) | (with_reducible rfl))
               | ((with_reducible apply LoadSt.boxAgg); · (repeat (first | exact List.Mem.head _ | with_reducible apply List.mem_append_right | with_reducible apply List.mem_cons_of_mem)))
               | ((with_reducible refine AllocSt.mk ?_); intro _b _hb _hbO)
               | ((with_reducible apply StoreSt.box); (· (repeat (first | exact Upd.hd | apply Upd.tl | apply Upd.app))); (· rfl); (· rfl); (· rfl)))
      repeat' (conv => whnf
               first
               | (((with_reducible refine CallSt.new (f := 7) (R := (PR p 0)) ?_ ?_); (· exact e7b _); rintro _ H3 ⟨a3, c3, rfl, r3⟩))
               | (((with_reducible refine CallSt.rd (f := 9) (X := .bool true) ?_ ?_); (· exact e9b a3 c3 _ (by (repeat (first | with_reducible assumption | (with_reducible apply Buf.rd; with_reducible assumption) | (with_reducible apply Rd.appL; with_reducible assumption) | (with_reducible apply Rd.appL; with_reducible apply Buf.rd; with_reducible assumption) | (with_reducible apply Rd.ofH; with_reducible assumption) | (with_reducible apply Rd.ofH1; with_reducible assumption) | with_reducible apply Rd.cons | with_reducible apply Rd.appR))) (by (repeat (first | with_reducible assumption | (with_reducible apply Buf.rd; with_reducible assumption) | (with_reducible apply Rd.appL; with_reducible assumption) | (with_reducible apply Rd.appL; with_reducible apply Buf.rd; with_reducible assumption) | (with_reducible apply Rd.ofH; with_reducible assumption) | (with_reducible apply Rd.ofH1; with_reducible assumption) | with_reducible apply Rd.cons | with_reducible apply Rd.appR))))))
               | (with_reducible refine NextSt.mk ?_)
               | (with_reducible refine OnBB.tt ?_)
               | (with_reducible refine OnBB.ff ?_)
               | ((with_reducible apply Cmp.yes); · first | omega | (with_reducible assumption) | (with_reducible rfl))
               | ((with_reducible apply Cmp.no); · first | omega | (with_reducible assumption))
               | ((with_reducible apply LoadSt.boxAgg); · (repeat (first | exact List.Mem.head _ | with_reducible apply List.mem_append_right | with_reducible apply List.mem_cons_of_mem)))
               | ((with_reducible refine AllocSt.mk ?_); intro _b _hb _hbO)
               | ((with_reducible apply StoreSt.box); (· (repeat (first | exact Upd.hd | apply Upd.tl | apply Upd.app))); (· rfl); (· rfl); (· rfl)))
      conv => whnf
      refine FinSt.ret (by (try dsimp only); (try simp only [List.cons_append, List.nil_append]); (repeat (first | with_reducible exact List.Sublist.refl _ | with_reducible exact List.nil_sublist _ | with_reducible apply List.Sublist.cons_cons | with_reducible apply sub_app | apply List.Sublist.cons_cons | apply sub_app | with_reducible apply List.Sublist.cons | with_reducible apply sub_skip))) ?_
      rfl
    · simp only [hqt] at e5q
      refine GSpec.enter (fn := Tryz.f3) Tryz.func3 rfl (by kernel_rfl) ?_
      repeat' (conv => whnf
               first
               | (((with_reducible refine CallSt.rd (f := 4) (X := .bool true) ?_ ?_); (· exact e4 _)))
               | (((with_reducible refine CallSt.rd (f := 5) (X := .tuple ⟨[sV P, .int .i64 0]⟩) ?_ ?_); (· (apply GSpec.cast (sp := e5 _ (by (repeat (first | with_reducible assumption | (with_reducible apply Buf.rd; with_reducible assumption) | (with_reducible apply Rd.appL; with_reducible assumption) | (with_reducible apply Rd.appL; with_reducible apply Buf.rd; with_reducible assumption) | (with_reducible apply Rd.ofH; with_reducible assumption) | (with_reducible apply Rd.ofH1; with_reducible assumption) | with_reducible apply Rd.cons | with_reducible apply Rd.appR)))); (· (repeat' (first | with_reducible rfl | refine congrArg₂ List.cons ?_ ?_ | exact iN_lit _ | rfl)))))))
               | (((with_reducible refine CallSt.rd (f := 6) (X := .tuple ⟨[sV P, .int .i64 0]⟩) ?_ ?_); (· exact e6 _ (by (repeat (first | with_reducible assumption | (with_reducible apply Buf.rd; with_reducible assumption) | (with_reducible apply Rd.appL; with_reducible assumption) | (with_reducible apply Rd.appL; with_reducible apply Buf.rd; with_reducible assumption) | (with_reducible apply Rd.ofH; with_reducible assumption) | (with_reducible apply Rd.ofH1; with_reducible assumption) | with_reducible apply Rd.cons | with_reducible apply Rd.appR))))))
               | (((with_reducible refine CallSt.new (f := 7) (R := (PR q 0)) ?_ ?_); (· (apply GSpec.cast (sp := e7 _); (· (repeat' (first | with_reducible rfl | refine congrArg₂ List.cons ?_ ?_ | exact iN_lit _ | rfl))))); rintro _ H1 ⟨a1, c1, rfl, r1⟩))
               | (((with_reducible refine CallSt.new (f := 8) (R := (PR q 0)) ?_ ?_); (· exact e8 _); rintro _ H2 ⟨a2, c2, rfl, r2⟩))
               | (((with_reducible apply Cmp.no); · exact fun h => h rfl))
               | (((with_reducible refine CallSt.rd (f := 9) (X := .bool true) ?_ ?_); (· (apply GSpec.cast (sp := e9 a1 a2 c1 c2 _ (by (repeat (first | with_reducible assumption | (with_reducible apply Buf.rd; with_reducible assumption) | (with_reducible apply Rd.appL; with_reducible assumption) | (with_reducible apply Rd.appL; with_reducible apply Buf.rd; with_reducible assumption) | (with_reducible apply Rd.ofH; with_reducible assumption) | (with_reducible apply Rd.ofH1; with_reducible assumption) | with_reducible apply Rd.cons | with_reducible apply Rd.appR))) (by (repeat (first | with_reducible assumption | (with_reducible apply Buf.rd; with_reducible assumption) | (with_reducible apply Rd.appL; with_reducible assumption) | (with_reducible apply Rd.appL; with_reducible apply Buf.rd; with_reducible assumption) | (with_reducible apply Rd.ofH; with_reducible assumption) | (with_reducible apply Rd.ofH1; with_reducible assumption) | with_reducible apply Rd.cons | with_reducible apply Rd.appR)))); (· (repeat' (first | with_reducible rfl | refine congrArg₂ List.cons ?_ ?_ | exact iN_lit _ | rfl)))))))
               | (with_reducible refine NextSt.mk ?_)
               | (with_reducible refine OnBB.tt ?_)
               | (with_reducible refine OnBB.ff ?_)
               | ((with_reducible apply Cmp.yes); · first | omega | (with_reducible assumption) | (with_reducible rfl))
               | ((with_reducible apply LoadSt.boxAgg); · (repeat (first | exact List.Mem.head _ | with_reducible apply List.mem_append_right | with_reducible apply List.mem_cons_of_mem)))
               | ((with_reducible refine AllocSt.mk ?_); intro _b _hb _hbO)
               | ((with_reducible apply StoreSt.box); (· (repeat (first | exact Upd.hd | apply Upd.tl | apply Upd.app))); (· rfl); (· rfl); (· rfl)))
      repeat' (conv => whnf
               first
               | (((with_reducible refine CallSt.new (f := 7) (R := (PR p 0)) ?_ ?_); (· exact e7b _); rintro _ H3 ⟨a3, c3, rfl, r3⟩))
               | (((with_reducible refine CallSt.rd (f := 9) (X := .bool true) ?_ ?_); (· exact e9b a3 c3 _ (by (repeat (first | with_reducible assumption | (with_reducible apply Buf.rd; with_reducible assumption) | (with_reducible apply Rd.appL; with_reducible assumption) | (with_reducible apply Rd.appL; with_reducible apply Buf.rd; with_reducible assumption) | (with_reducible apply Rd.ofH; with_reducible assumption) | (with_reducible apply Rd.ofH1; with_reducible assumption) | with_reducible apply Rd.cons | with_reducible apply Rd.appR))) (by (repeat (first | with_reducible assumption | (with_reducible apply Buf.rd; with_reducible assumption) | (with_reducible apply Rd.appL; with_reducible assumption) | (with_reducible apply Rd.appL; with_reducible apply Buf.rd; with_reducible assumption) | (with_reducible apply Rd.ofH; with_reducible assumption) | (with_reducible apply Rd.ofH1; with_reducible assumption) | with_reducible apply Rd.cons | with_reducible apply Rd.appR))))))
               | (with_reducible refine NextSt.mk ?_)
               | (with_reducible refine OnBB.tt ?_)
               | (with_reducible refine OnBB.ff ?_)
               | ((with_reducible apply Cmp.no); · first | omega | (with_reducible assumption))
               | ((with_reducible apply LoadSt.boxAgg); · (repeat (first | exact List.Mem.head _ | with_reducible apply List.mem_append_right | with_reducible apply List.mem_cons_of_mem)))
               | ((with_reducible refine AllocSt.mk ?_); intro _b _hb _hbO)
               | ((with_reducible apply StoreSt.box); (· (repeat (first | exact Upd.hd | apply Upd.tl | apply Upd.app))); (· rfl); (· rfl); (· rfl)))
      repeat' (conv => whnf
               first
               | (((with_reducible refine CallSt.rd (f := 5) (X := .tuple ⟨[sV s, .int .i64 0]⟩) ?_ ?_); (· exact e5q a1 c1 _ (by (repeat (first | with_reducible assumption | (with_reducible apply Buf.rd; with_reducible assumption) | (with_reducible apply Rd.appL; with_reducible assumption) | (with_reducible apply Rd.appL; with_reducible apply Buf.rd; with_reducible assumption) | (with_reducible apply Rd.ofH; with_reducible assumption) | (with_reducible apply Rd.ofH1; with_reducible assumption) | with_reducible apply Rd.cons | with_reducible apply Rd.appR))))))
               | (with_reducible refine NextSt.mk ?_)
               | (with_reducible refine OnBB.tt ?_)
               | ((with_reducible apply Cmp.yes); · first | omega | (with_reducible assumption) | (with_reducible rfl)))
      conv => whnf
      refine FinSt.ret (by (try dsimp only); (try simp only [List.cons_append, List.nil_append]); (repeat (first | with_reducible exact List.Sublist.refl _ | with_reducible exact List.nil_sublist _ | with_reducible apply List.Sublist.cons_cons | with_reducible apply sub_app | apply List.Sublist.cons_cons | apply sub_app | with_reducible apply List.Sublist.cons | with_reducible apply sub_skip))) ?_
      rfl
  · have hpt : prT p = .tuple ⟨[sV [], .int .i64 30]⟩ := by unfold prT; rw [show chkP p = 30 from if_neg hp]; rfl
    rw [hpt] at e5 e6
    rcases hcase with rfl | ⟨rfl, hqt⟩
    · clear e5q
      refine GSpec.enter (fn := Tryz.f3) Tryz.func3 rfl (by kernel_rfl) ?_
      repeat' (conv => whnf
               first
               | (((with_reducible refine CallSt.rd (f := 4) (X := .bool true) ?_ ?_); (· exact e4 _)))
               | (((with_reducible refine CallSt.rd (f := 5) (X := .tuple ⟨[sV [], .int .i64 30]⟩) ?_ ?_); (· (apply GSpec.cast (sp := e5 _ (by (repeat (first | with_reducible assumption | (with_reducible apply Buf.rd; with_reducible assumption) | (with_reducible apply Rd.appL; with_reducible assumption) | (with_reducible apply Rd.appL; with_reducible apply Buf.rd; with_reducible assumption) | (with_reducible apply Rd.ofH; with_reducible assumption) | (with_reducible apply Rd.ofH1; with_reducible assumption) | with_reducible apply Rd.cons | with_reducible apply Rd.appR)))); (· (repeat' (first | with_reducible rfl | refine congrArg₂ List.cons ?_ ?_ | exact iN_lit _ | rfl)))))))
               | (((with_reducible refine CallSt.rd (f := 6) (X := .tuple ⟨[sV [], .int .i64 30]⟩) ?_ ?_); (· exact e6 _ (by (repeat (first | with_reducible assumption | (with_reducible apply Buf.rd; with_reducible assumption) | (with_reducible apply Rd.appL; with_reducible assumption) | (with_reducible apply Rd.appL; with_reducible apply Buf.rd; with_reducible assumption) | (with_reducible apply Rd.ofH; with_reducible assumption) | (with_reducible apply Rd.ofH1; with_reducible assumption) | with_reducible apply Rd.cons | with_reducible apply Rd.appR))))))
               | (((with_reducible refine CallSt.new (f := 7) (R := (PR q 3)) ?_ ?_); (· (apply GSpec.cast (sp := e7 _); (· (repeat' (first | with_reducible rfl | refine congrArg₂ List.cons ?_ ?_ | exact iN_lit _ | rfl))))); rintro _ H1 ⟨a1, c1, rfl, r1⟩))
               | (((with_reducible refine CallSt.new (f := 8) (R := (PR q 3)) ?_ ?_); (· exact e8 _); rintro _ H2 ⟨a2, c2, rfl, r2⟩))
               | (((with_reducible apply Cmp.no); · exact fun h => h rfl))
               | (((with_reducible refine CallSt.rd (f := 9) (X := .bool true) ?_ ?_); (· (apply GSpec.cast (sp := e9 a1 a2 c1 c2 _ (by (repeat (first | with_reducible assumption | (with_reducible apply Buf.rd; with_reducible assumption) | (with_reducible apply Rd.appL; with_reducible assumption) | (with_reducible apply Rd.appL; with_reducible apply Buf.rd; with_reducible assumption) | (with_reducible apply Rd.ofH; with_reducible assumption) | (with_reducible apply Rd.ofH1; with_reducible assumption) | with_reducible apply Rd.cons | with_reducible apply Rd.appR))) (by (repeat (first | with_reducible assumption | (with_reducible apply Buf.rd; with_reducible assumption) | (with_reducible apply Rd.appL; with_reducible assumption) | (with_reducible apply Rd.appL; with_reducible apply Buf.rd; with_reducible assumption) | (with_reducible apply Rd.ofH; with_reducible assumption) | (with_reducible apply Rd.ofH1; with_reducible assumption) | with_reducible apply Rd.cons | with_reducible apply Rd.appR)))); (· (repeat' (first | with_reducible rfl | refine congrArg₂ List.cons ?_ ?_ | exact iN_lit _ | rfl)))))))
               | (with_reducible refine NextSt.mk ?_)
               | (with_reducible refine OnBB.tt ?_)
               | (with_reducible refine OnBB.ff ?_)
               | ((with_reducible apply Cmp.yes); · first | omega | (with_reducible assumption) | (with_reducible rfl))
               | ((with_reducible apply Cmp.no); · first | omega | (with_reducible assumption))
               | ((with_reducible apply LoadSt.boxAgg); · (repeat (first | exact List.Mem.head _ | with_reducible apply List.mem_append_right | with_reducible apply List.mem_cons_of_mem)))
               | ((with_reducible refine AllocSt.mk ?_); intro _b _hb _hbO)
               | ((with_reducible apply StoreSt.box); (· (repeat (first | exact Upd.hd | apply Upd.tl | apply Upd.app))); (· rfl); (· rfl); (· rfl)))
      conv => whnf
      refine FinSt.ret (by (try dsimp only); (try simp only [List.cons_append, List.nil_append]); (repeat (first | with_reducible exact List.Sublist.refl _ | with_reducible exact List.nil_sublist _ | with_reducible apply List.Sublist.cons_cons | with_reducible apply sub_app | apply List.Sublist.cons_cons | apply sub_app | with_reducible apply List.Sublist.cons | with_reducible apply sub_skip))) ?_
      rfl
    · simp only [hqt] at e5q
      refine GSpec.enter (fn := Tryz.f3) Tryz.func3 rfl (by kernel_rfl) ?_
      repeat' (conv => whnf
               first
               | (((with_reducible refine CallSt.rd (f := 4) (X := .bool true) ?_ ?_); (· exact e4 _)))
               | (((with_reducible refine CallSt.rd (f := 5) (X := .tuple ⟨[sV [], .int .i64 30]⟩) ?_ ?_); (· (apply GSpec.cast (sp := e5 _ (by (repeat (first | with_reducible assumption | (with_reducible apply Buf.rd; with_reducible assumption) | (with_reducible apply Rd.appL; with_reducible assumption) | (with_reducible apply Rd.appL; with_reducible apply Buf.rd; with_reducible assumption) | (with_reducible apply Rd.ofH; with_reducible assumption) | (with_reducible apply Rd.ofH1; with_reducible assumption) | with_reducible apply Rd.cons | with_reducible apply Rd.appR)))); (· (repeat' (first | with_reducible rfl | refine congrArg₂ List.cons ?_ ?_ | exact iN_lit _ | rfl)))))))
               | (((with_reducible refine CallSt.rd (f := 6) (X := .tuple ⟨[sV [], .int .i64 30]⟩) ?_ ?_); (· exact e6 _ (by (repeat (first | with_reducible assumption | (with_reducible apply Buf.rd; with_reducible assumption) | (with_reducible apply Rd.appL; with_reducible assumption) | (with_reducible apply Rd.appL; with_reducible apply Buf.rd; with_reducible assumption) | (with_reducible apply Rd.ofH; with_reducible assumption) | (with_reducible apply Rd.ofH1; with_reducible assumption) | with_reducible apply Rd.cons | with_reducible apply Rd.appR))))))
               | (((with_reducible refine CallSt.new (f := 7) (R := (PR q 0)) ?_ ?_); (· (apply GSpec.cast (sp := e7 _); (· (repeat' (first | with_reducible rfl | refine congrArg₂ List.cons ?_ ?_ | exact iN_lit _ | rfl))))); rintro _ H1 ⟨a1, c1, rfl, r1⟩))
               | (((with_reducible refine CallSt.new (f := 8) (R := (PR q 0)) ?_ ?_); (· exact e8 _); rintro _ H2 ⟨a2, c2, rfl, r2⟩))
               | (((with_reducible apply Cmp.no); · exact fun h => h rfl))
               | (((with_reducible refine CallSt.rd (f := 9) (X := .bool true) ?_ ?_); (· (apply GSpec.cast (sp := e9 a1 a2 c1 c2 _ (by (repeat (first | with_reducible assumption | (with_reducible apply Buf.rd; with_reducible assumption) | (with_reducible apply Rd.appL; with_reducible assumption) | (with_reducible apply Rd.appL; with_reducible apply Buf.rd; with_reducible assumption) | (with_reducible apply Rd.ofH; with_reducible assumption) | (with_reducible apply Rd.ofH1; with_reducible assumption) | with_reducible apply Rd.cons | with_reducible apply Rd.appR))) (by (repeat (first | with_reducible assumption | (with_reducible apply Buf.rd; with_reducible assumption) | (with_reducible apply Rd.appL; with_reducible assumption) | (with_reducible apply Rd.appL; with_reducible apply Buf.rd; with_reducible assumption) | (with_reducible apply Rd.ofH; with_reducible assumption) | (with_reducible apply Rd.ofH1; with_reducible assumption) | with_reducible apply Rd.cons | with_reducible apply Rd.appR)))); (· (repeat' (first | with_reducible rfl | refine congrArg₂ List.cons ?_ ?_ | exact iN_lit _ | rfl)))))))
               | (with_reducible refine NextSt.mk ?_)
               | (with_reducible refine OnBB.tt ?_)
               | (with_reducible refine OnBB.ff ?_)
               | ((with_reducible apply Cmp.no); · first | omega | (with_reducible assumption))
               | ((with_reducible apply LoadSt.boxAgg); · (repeat (first | exact List.Mem.head _ | with_reducible apply List.mem_append_right | with_reducible apply List.mem_cons_of_mem)))
               | ((with_reducible refine AllocSt.mk ?_); intro _b _hb _hbO)
               | ((with_reducible apply StoreSt.box); (· (repeat (first | exact Upd.hd | apply Upd.tl | apply Upd.app))); (· rfl); (· rfl); (· rfl)))
      repeat' (conv => whnf
               first
               | (((with_reducible refine CallSt.rd (f := 5) (X := .tuple ⟨[sV s, .int .i64 0]⟩) ?_ ?_); (· exact e5q a1 c1 _ (by (repeat (first | with_reducible assumption | (with_reducible apply Buf.rd; with_reducible assumption) | (with_reducible apply Rd.appL; with_reducible assumption) | (with_reducible apply Rd.appL; with_reducible apply Buf.rd; with_reducible assumption) | (with_reducible apply Rd.ofH; with_reducible assumption) | (with_reducible apply Rd.ofH1; with_reducible assumption) | with_reducible apply Rd.cons | with_reducible apply Rd.appR))))))
               | (with_reducible refine NextSt.mk ?_)
               | (with_reducible refine OnBB.tt ?_)
               | ((with_reducible apply Cmp.yes); · first | omega | (with_reducible assumption) | (with_reducible rfl)))
      conv => whnf
      refine FinSt.ret (by (try dsimp only); (try simp only [List.cons_append, List.nil_append]); (repeat (first | with_reducible exact List.Sublist.refl _ | with_reducible exact List.nil_sublist _ | with_reducible apply List.Sublist.cons_cons | with_reducible apply sub_app | apply List.Sublist.cons_cons | apply sub_app | with_reducible apply List.Sublist.cons | with_reducible apply sub_skip))) ?_
      rfl
end Go.Proofs.YtaahjlhfmkjefaaGreatDoor
