/- The law of wider bounds. -/
import Derived.Test.YtaahjlhfmkjefaaDoorMj
set_option linter.unusedVariables false
set_option linter.unusedSimpArgs false
set_option linter.unusedSectionVars false
/- The law of wider bounds: the walk. -/
namespace Go.Proofs.YtaahjlhfmkjefaaDoor
open Go Go.Gv
set_option maxRecDepth 100000
set_option maxHeartbeats 16000000
set_option linter.unusedSimpArgs false
set_option linter.unusedVariables false
/-- The pillow with wider bounds; the wider weather. -/
def widP (p : Pl) (x y z : Int) : Pl := ⟨p.no, p.cell, max p.noise x, max p.slab y, p.jump, max p.faults z, p.log⟩
def widS (u : Int) (s : Sp) : Sp := ⟨max (s.lo - u) (-65536), min (s.hi + u) 65536⟩
theorem wid_told {p : Pl} {w : List Sp} {l : List Int} {x y z u : Int} (h : toldV p w l = 0) (hx : 0 ≤ x ∧ x ≤ 65536) (hy : 0 ≤ y ∧ y ≤ 65536) (hz : 0 ≤ z ∧ z ≤ 32) (hu : 0 ≤ u ∧ u ≤ 65536) : toldV (widP p x y z) (w.map (widS u)) l = 0 := by
  obtain ⟨hp, hw, hc⟩ := told_ok h
  have hw' : ∀ i < (w.map (widS u)).length, ((w.map (widS u)).getD i default) = widS u (w.getD i default) := fun i hi => by
    rw [List.length_map] at hi
    simp [List.getD_eq_getElem?_getD, List.getElem?_eq_getElem hi]
  have hq : pOk (widP p x y z) := ⟨⟨hp.1.1, hp.1.2.1, by have := hp.1.2.2.1; simp only [widP]; omega, by have := hp.1.2.2.2.1; simp only [widP]; omega, hp.1.2.2.2.2.1, by have := hp.1.2.2.2.2.2.1; simp only [widP]; omega, hp.1.2.2.2.2.2.2⟩, hp.2⟩
  have hv : wOk (widP p x y z) (w.map (widS u)) := ⟨by rw [List.length_map]; exact hw.1, fun i hi => by
    have := wOk_at hw i
    rw [hw' i hi]; simp only [widS]; omega⟩
  have hd : caseOk (widP p x y z) l := ⟨hc.1, hc.2.1, by have := hc.2.2; simp only [widP]; omega⟩
  unfold toldV tellV
  rw [if_pos hq, if_pos hv, if_neg (fun e => e rfl), if_pos hd]
theorem wid_alive {p : Pl} {w : List Sp} {l : List Int} {x y z u : Int} (hw : wOk p w) (hc : caseOk p l) (hu : 0 ≤ u) (h : alive p w l) : alive (widP p x y z) (w.map (widS u)) l := by
  refine alive_wider (p := p) (w := w) rfl ?_ ?_ (fun i hi => ?_) h
  · simp only [widP]; omega
  · simp only [widP]; omega
  · have hil : i < w.length := by rw [hw.1, ← hc.1]; omega
    have := wOk_at hw i
    have e : (w.map (widS u)).getD i default = widS u (w.getD i default) := by simp [List.getD_eq_getElem?_getD, List.getElem?_eq_getElem hil]
    rw [e]
    simp only [subS, widS]; omega
theorem f5 (p : Pl) (w : List Sp) (l : List Int) (x y z u : Int) (a a2 a3 : Option Addr) (c c2 c3 : Nat) (hx : i64 x) (hy : i64 y) (hz : i64 z) (hu : i64 u) (hl : p.log.length ≤ 9223372036854775807) (hw : w.length ≤ 9223372036854775807) (hll : l.length ≤ 9223372036854775807) (h : View) (hpw : PowV h) (O : Hp) (hr : Rd h O a (p.log.flatMap shV)) (hr2 : Rd h O a2 (w.flatMap spV)) (hr3 : Rd h O a3 (l.map zI)) :
    GSpec Tryd.prog 5 [.agg ⟨plV p a c⟩, .slice a2 w.length c2, .slice a3 l.length c3, .int .i64 x, .int .i64 y, .int .i64 z, .int .i64 u] h O (Ret O (.bool true)) := by
  have e16 := fun O => f16 h hpw O
  have e20 := fun O hr hr2 hr3 => f20 p w l a a2 a3 c c2 c3 hl hw hll h O hr hr2 hr3
  show GSpec Tryd.prog 5 [.agg ⟨[.int .i64 p.no, .int .i64 p.cell, .int .i64 p.noise, .int .i64 p.slab, .int .i64 p.jump, .int .i64 p.faults, .slice a p.log.length c]⟩, _, _, _, _, _, _] h O _
  by_cases ht : toldV p w l = 0
  · obtain ⟨hp, hwo, hc⟩ := told_ok ht
    by_cases hal : alive p w l
    · have hA : aliveT p w l = .tuple ⟨[.bool true, .int .i64 0]⟩ := by unfold aliveT; rw [ht, decide_eq_true ⟨rfl, hal⟩]
      rw [hA] at e20
      by_cases hg : (0 ≤ x ∧ x ≤ 65536) ∧ (0 ≤ y ∧ y ≤ 65536) ∧ (0 ≤ z ∧ z ≤ 32) ∧ (0 ≤ u ∧ u ≤ 65536)
      · obtain ⟨gx, gy, gz, gu⟩ := hg
        have ht' := wid_told ht gx gy gz gu
        have hal' := wid_alive (x := x) (y := y) (z := z) (u := u) hwo hc gu.1 hal
        have hA' : aliveT (widP p x y z) (w.map (widS u)) l = .tuple ⟨[.bool true, .int .i64 0]⟩ := by unfold aliveT; rw [ht', decide_eq_true ⟨rfl, hal'⟩]
        have hwl := hp.1.2.2.2.2.2.2
        have hwl' := hwo.1
        have e20' := fun C O hr hr2 hr3 => f20 (widP p x y z) (w.map (widS u)) l a (Buf.a C) a3 c C.cap c3 hl (by rw [List.length_map]; exact hw) hll h O hr hr2 hr3
        rw [hA'] at e20'
        obtain ⟨⟨p1, p1'⟩, ⟨p2, p2'⟩, ⟨p3, p3'⟩, ⟨p4, p4'⟩, ⟨p5, p5'⟩, ⟨p6, p6'⟩, p7⟩ := hp.1
        refine GSpec.enter (fn := Tryd.f5) Tryd.func5 rfl (by kernel_rfl) ?_
        repeat' (conv => whnf
                 first
                 | (((with_reducible refine CallSt.rd (f := 16) (X := .bool true) ?_ ?_); (· exact e16 _)))
                 | (((with_reducible refine CallSt.rd (f := 20) (X := .tuple ⟨[.bool true, .int .i64 0]⟩) ?_ ?_); (· exact e20 _ (by (repeat (first | with_reducible assumption | (with_reducible apply Buf.rd; with_reducible assumption) | (with_reducible apply Rd.appL; with_reducible assumption) | (with_reducible apply Rd.appL; with_reducible apply Buf.rd; with_reducible assumption) | (with_reducible apply Rd.ofH; with_reducible assumption) | (with_reducible apply Rd.ofH1; with_reducible assumption) | with_reducible apply Rd.cons | with_reducible apply Rd.appR))) (by (repeat (first | with_reducible assumption | (with_reducible apply Buf.rd; with_reducible assumption) | (with_reducible apply Rd.appL; with_reducible assumption) | (with_reducible apply Rd.appL; with_reducible apply Buf.rd; with_reducible assumption) | (with_reducible apply Rd.ofH; with_reducible assumption) | (with_reducible apply Rd.ofH1; with_reducible assumption) | with_reducible apply Rd.cons | with_reducible apply Rd.appR))) (by (repeat (first | with_reducible assumption | (with_reducible apply Buf.rd; with_reducible assumption) | (with_reducible apply Rd.appL; with_reducible assumption) | (with_reducible apply Rd.appL; with_reducible apply Buf.rd; with_reducible assumption) | (with_reducible apply Rd.ofH; with_reducible assumption) | (with_reducible apply Rd.ofH1; with_reducible assumption) | with_reducible apply Rd.cons | with_reducible apply Rd.appR))))))
                 | (with_reducible refine NextSt.mk ?_)
                 | (with_reducible refine OnBB.tt ?_)
                 | (with_reducible refine OnBB.ff ?_)
                 | ((with_reducible apply Cmp.no); · first | omega | (with_reducible assumption))
                 | ((with_reducible apply LoadSt.box); · (repeat (first | exact List.Mem.head _ | with_reducible apply List.mem_append_right | with_reducible apply List.mem_cons_of_mem)))
                 | ((with_reducible apply LoadSt.boxAgg); · (repeat (first | exact List.Mem.head _ | with_reducible apply List.mem_append_right | with_reducible apply List.mem_cons_of_mem)))
                 | ((with_reducible refine AllocSt.mk ?_); intro _b _hb _hbO)
                 | ((with_reducible apply StoreSt.box); (· (repeat (first | exact Upd.hd | apply Upd.tl | apply Upd.app))); (· rfl); (· rfl); (· rfl))
                 | (with_reducible apply MinMax.maxI))
        rename_i bp hbp hbpO
        refine LoopSt.fix [18, 19, 85, 86, 87, 88, 89, 90, 91, 92, 93, 94, 95, 96, 97, 98, 99, 100, 101, 102, 103, 104, 105, 106, 107, 108, 109, 110] (fun ((i, C) : Nat × Buf) => [(18, .slice C.a ((w.take i).map (widS u)).length C.cap), (19, iN i)]) (fun (i, C) => C.hp 42 (((w.take i).map (widS u)).flatMap spV) ++ ((_b, .cells ⟨[.int .i64 p.no, .int .i64 p.cell, .int .i64 (max p.noise x), .int .i64 (max p.slab y), .int .i64 p.jump, .int .i64 (max p.faults z), .slice a p.log.length c]⟩ 24 (0, 0)) :: (bp, .cells ⟨[.int .i64 p.no, .int .i64 p.cell, .int .i64 p.noise, .int .i64 p.slab, .int .i64 p.jump, .int .i64 p.faults, .slice a p.log.length c]⟩ 24 (0, 0)) :: O)) (fun (i, C) => i ≤ w.length ∧ C.ok 2 (((w.take i).map (widS u)).flatMap spV) ((w.take i).map (widS u)).length) (fun (i, C) => w.length - i) ((0, Buf.nil)) _ (Wk.refl _ _) (rfl) ?_ ?_ ?_
        · repeat' (first | exact True.intro | refine And.intro ?_ ?_ | rfl | exact congrArg (Value.int _) (by omega) | exact congrArg (fun n => Value.slice _ n _) (by (try dsimp only); omega))
        · exact ⟨Nat.zero_le _, Buf.nil_ok 2⟩
        · rintro ⟨i, C⟩ d ⟨hi, hC⟩
          dsimp only at hi hC ⊢
          by_cases hil : i < w.length
          · have hwi := wOk_at hwo i
            have hst : (w.take (i + 1)).map (widS u) = (w.take i).map (widS u) ++ [widS u (w.getD i default)] := by
              rw [List.take_add_one, List.getElem?_eq_getElem hil, List.map_append, List.getD_eq_getElem?_getD, List.getElem?_eq_getElem hil]; rfl
            have hln : ((w.take i).map (widS u)).length = i := by rw [List.length_map, List.length_take]; omega
            generalize hM : (w.take i).map (widS u) = M at *
            generalize hM1 : (w.take (i + 1)).map (widS u) = M1 at *
            have hm1 : M1.length = M.length + 1 := by rw [hst, List.length_append]; rfl
            repeat' (conv => whnf
                     first
                     | (((apply AppSt.litm (g := spV) (x := widS u (w.getD i default)) (s := 2) (z := .agg ⟨[.int .i64 0, .int .i64 0]⟩)); (· (repeat (first | with_reducible exact Loc.hd | with_reducible exact Loc.last | with_reducible exact Loc.one | with_reducible apply Loc.tl | with_reducible apply Loc.skip))); (· exact hC); (· (repeat (first | exact List.Mem.head _ | with_reducible apply List.mem_append_right | with_reducible apply List.mem_cons_of_mem))); (· rfl); (· rfl); (· rfl); (· rfl); (· rfl); (· rfl); (· rfl); (· (show _ * 16 ≤ _; omega)); (· omega); intro C1 hC1); rw [← hst] at hC1 ⊢)
                     | ((with_reducible refine DrawSt.walk [0, 1, 2, 3, 4, 5, 6, 7, 8, 9, 10, 11, 12, 13, 14, 15, 16, 17, 18, 19, 20] mixed ?_ ?_); · decide +kernel)
                     | ((with_reducible apply LoadSt.rdf (g := spV) (s := 2)); (· (repeat (first | with_reducible assumption | (with_reducible apply Rd.any; with_reducible assumption) | (with_reducible apply Buf.rd; with_reducible assumption) | (with_reducible apply Rd.appL; with_reducible assumption) | (with_reducible apply Rd.appL; with_reducible apply Buf.rd; with_reducible assumption) | (with_reducible apply Rd.ofH; with_reducible assumption) | (with_reducible apply Rd.ofH1; with_reducible assumption) | with_reducible apply Rd.cons | with_reducible apply Rd.appR))); (· exact fun _ => rfl); (· (first | omega | (simp only [List.length_map, List.length_append, List.length_cons, List.length_nil, List.length_take, List.length_drop, List.length_replicate, List.length_set] at *; omega))); (· decide))
                     | ((with_reducible apply IdxSl.rdg (g := spV) (s := 2)); (· with_reducible assumption); (· exact fun _ => rfl); (· decide); (· rfl); (· first | with_reducible rfl | exact natL _); (· (first | omega | (simp only [List.length_map, List.length_append, List.length_cons, List.length_nil, List.length_take, List.length_drop, List.length_replicate, List.length_set] at *; omega))); · (first | omega | (simp only [List.length_map, List.length_append, List.length_cons, List.length_nil, List.length_take, List.length_drop, List.length_replicate, List.length_set] at *; omega)))
                     | (with_reducible refine NextSt.mk ?_)
                     | (with_reducible refine OnBB.tt ?_)
                     | ((with_reducible apply NW.addN); (· first | with_reducible rfl | exact natL _); (· first | with_reducible rfl | exact natL _); (· omega))
                     | ((with_reducible apply NW.i64); · omega)
                     | ((with_reducible apply Cmp.yes); · first | omega | (with_reducible assumption) | (with_reducible rfl))
                     | ((with_reducible refine AllocSt.mk ?_); intro _b _hb _hbO)
                     | (with_reducible apply MinMax.maxI)
                     | (with_reducible apply MinMax.minI))
            rw [← hm1] at hC1
            subst hM1
            refine RoundFix.mk ((i + 1, C1)) ?_ ?_ _ rfl (Wk.drop (by (try dsimp only); (try simp only [List.cons_append, List.nil_append]); (repeat (first | with_reducible exact List.Sublist.refl _ | with_reducible exact List.nil_sublist _ | with_reducible apply List.Sublist.cons_cons | with_reducible apply sub_app | apply List.Sublist.cons_cons | apply sub_app | with_reducible apply List.Sublist.cons | with_reducible apply sub_skip)))) ?_
            · dsimp only; omega
            · repeat' (first | exact True.intro | refine And.intro ?_ ?_ | exact congrArg (fun n => Value.slice C1.a n C1.cap) hm1.symm | rfl | exact congrArg (Value.int _) (by omega) | exact congrArg (fun n => Value.slice _ n _) (by (try dsimp only); omega))
            · exact ⟨hil, hC1⟩
          · have : i = w.length := by omega
            subst this
            rw [List.take_length] at hC ⊢
            repeat' (conv => whnf
                     first
                     | (((refine CallSt.rd (f := 20) (X := .tuple ⟨[.bool true, .int .i64 0]⟩) ?_ ?_); (· exact e20' C _ (show Rd _ _ a (p.log.flatMap shV) by (repeat (first | with_reducible assumption | (with_reducible apply Buf.rd; with_reducible assumption) | (with_reducible apply Rd.appL; with_reducible assumption) | (with_reducible apply Rd.appL; with_reducible apply Buf.rd; with_reducible assumption) | (with_reducible apply Rd.ofH; with_reducible assumption) | (with_reducible apply Rd.ofH1; with_reducible assumption) | with_reducible apply Rd.cons | with_reducible apply Rd.appR))) (Buf.rd hC).appL (by (repeat (first | with_reducible assumption | (with_reducible apply Buf.rd; with_reducible assumption) | (with_reducible apply Rd.appL; with_reducible assumption) | (with_reducible apply Rd.appL; with_reducible apply Buf.rd; with_reducible assumption) | (with_reducible apply Rd.ofH; with_reducible assumption) | (with_reducible apply Rd.ofH1; with_reducible assumption) | with_reducible apply Rd.cons | with_reducible apply Rd.appR))))))
                     | (with_reducible refine NextSt.mk ?_)
                     | (with_reducible refine OnBB.tt ?_)
                     | (with_reducible refine OnBB.ff ?_)
                     | ((with_reducible apply Cmp.yes); · first | omega | (with_reducible assumption) | (with_reducible rfl))
                     | ((with_reducible apply Cmp.no); · first | omega | (with_reducible assumption))
                     | ((with_reducible apply LoadSt.boxAgg); · (repeat (first | exact List.Mem.head _ | with_reducible apply List.mem_append_right | with_reducible apply List.mem_cons_of_mem))))
            conv => whnf
            refine FinSt.ret (by (try dsimp only); (try simp only [List.cons_append, List.nil_append]); (repeat (first | with_reducible exact List.Sublist.refl _ | with_reducible exact List.nil_sublist _ | with_reducible apply List.Sublist.cons_cons | with_reducible apply sub_app | apply List.Sublist.cons_cons | apply sub_app | with_reducible apply List.Sublist.cons | with_reducible apply sub_skip))) ?_
            rfl
      · refine GSpec.enter (fn := Tryd.f5) Tryd.func5 rfl (by kernel_rfl) ?_
        repeat' (conv => whnf
                 first
                 | (((with_reducible refine CallSt.rd (f := 16) (X := .bool true) ?_ ?_); (· exact e16 _)))
                 | (((with_reducible refine CallSt.rd (f := 20) (X := .tuple ⟨[.bool true, .int .i64 0]⟩) ?_ ?_); (· exact e20 _ (by (repeat (first | with_reducible assumption | (with_reducible apply Buf.rd; with_reducible assumption) | (with_reducible apply Rd.appL; with_reducible assumption) | (with_reducible apply Rd.appL; with_reducible apply Buf.rd; with_reducible assumption) | (with_reducible apply Rd.ofH; with_reducible assumption) | (with_reducible apply Rd.ofH1; with_reducible assumption) | with_reducible apply Rd.cons | with_reducible apply Rd.appR))) (by (repeat (first | with_reducible assumption | (with_reducible apply Buf.rd; with_reducible assumption) | (with_reducible apply Rd.appL; with_reducible assumption) | (with_reducible apply Rd.appL; with_reducible apply Buf.rd; with_reducible assumption) | (with_reducible apply Rd.ofH; with_reducible assumption) | (with_reducible apply Rd.ofH1; with_reducible assumption) | with_reducible apply Rd.cons | with_reducible apply Rd.appR))) (by (repeat (first | with_reducible assumption | (with_reducible apply Buf.rd; with_reducible assumption) | (with_reducible apply Rd.appL; with_reducible assumption) | (with_reducible apply Rd.appL; with_reducible apply Buf.rd; with_reducible assumption) | (with_reducible apply Rd.ofH; with_reducible assumption) | (with_reducible apply Rd.ofH1; with_reducible assumption) | with_reducible apply Rd.cons | with_reducible apply Rd.appR))))))
                 | (with_reducible refine NextSt.mk ?_)
                 | (with_reducible refine OnBB.tt ?_)
                 | (with_reducible refine OnBB.ff ?_)
                 | ((with_reducible apply Cmp.yes); · first | omega | (with_reducible assumption) | (with_reducible rfl))
                 | ((with_reducible apply Cmp.no); · first | omega | (with_reducible assumption))
                 | ((with_reducible apply LoadSt.boxAgg); · (repeat (first | exact List.Mem.head _ | with_reducible apply List.mem_append_right | with_reducible apply List.mem_cons_of_mem)))
                 | ((with_reducible refine AllocSt.mk ?_); intro _b _hb _hbO)
                 | ((with_reducible refine Cmp.mk ?_ ?_) <;> intro _hc))
        all_goals ((conv => whnf); refine FinSt.ret (by (try dsimp only); (try simp only [List.cons_append, List.nil_append]); (repeat (first | with_reducible exact List.Sublist.refl _ | with_reducible exact List.nil_sublist _ | with_reducible apply List.Sublist.cons_cons | with_reducible apply sub_app | apply List.Sublist.cons_cons | apply sub_app | with_reducible apply List.Sublist.cons | with_reducible apply sub_skip))) ?_; rfl)
    · have hA : aliveT p w l = .tuple ⟨[.bool false, .int .i64 0]⟩ := by unfold aliveT; rw [ht, decide_eq_false fun e => hal e.2]
      rw [hA] at e20
      refine GSpec.enter (fn := Tryd.f5) Tryd.func5 rfl (by kernel_rfl) ?_
      repeat' (conv => whnf
               first
               | (((with_reducible refine CallSt.rd (f := 16) (X := .bool true) ?_ ?_); (· exact e16 _)))
               | (((with_reducible refine CallSt.rd (f := 20) (X := .tuple ⟨[.bool false, .int .i64 0]⟩) ?_ ?_); (· exact e20 _ (by (repeat (first | with_reducible assumption | (with_reducible apply Buf.rd; with_reducible assumption) | (with_reducible apply Rd.appL; with_reducible assumption) | (with_reducible apply Rd.appL; with_reducible apply Buf.rd; with_reducible assumption) | (with_reducible apply Rd.ofH; with_reducible assumption) | (with_reducible apply Rd.ofH1; with_reducible assumption) | with_reducible apply Rd.cons | with_reducible apply Rd.appR))) (by (repeat (first | with_reducible assumption | (with_reducible apply Buf.rd; with_reducible assumption) | (with_reducible apply Rd.appL; with_reducible assumption) | (with_reducible apply Rd.appL; with_reducible apply Buf.rd; with_reducible assumption) | (with_reducible apply Rd.ofH; with_reducible assumption) | (with_reducible apply Rd.ofH1; with_reducible assumption) | with_reducible apply Rd.cons | with_reducible apply Rd.appR))) (by (repeat (first | with_reducible assumption | (with_reducible apply Buf.rd; with_reducible assumption) | (with_reducible apply Rd.appL; with_reducible assumption) | (with_reducible apply Rd.appL; with_reducible apply Buf.rd; with_reducible assumption) | (with_reducible apply Rd.ofH; with_reducible assumption) | (with_reducible apply Rd.ofH1; with_reducible assumption) | with_reducible apply Rd.cons | with_reducible apply Rd.appR))))))
               | (with_reducible refine NextSt.mk ?_)
               | (with_reducible refine OnBB.tt ?_)
               | (with_reducible refine OnBB.ff ?_)
               | ((with_reducible apply Cmp.no); · first | omega | (with_reducible assumption))
               | ((with_reducible apply LoadSt.boxAgg); · (repeat (first | exact List.Mem.head _ | with_reducible apply List.mem_append_right | with_reducible apply List.mem_cons_of_mem)))
               | ((with_reducible refine AllocSt.mk ?_); intro _b _hb _hbO))
      conv => whnf
      refine FinSt.ret (by (try dsimp only); (try simp only [List.cons_append, List.nil_append]); (repeat (first | with_reducible exact List.Sublist.refl _ | with_reducible exact List.nil_sublist _ | with_reducible apply List.Sublist.cons_cons | with_reducible apply sub_app | apply List.Sublist.cons_cons | apply sub_app | with_reducible apply List.Sublist.cons | with_reducible apply sub_skip))) ?_
      rfl
  · have hA : aliveT p w l = .tuple ⟨[.bool false, .int .i64 (toldV p w l)]⟩ := by unfold aliveT; rw [decide_eq_false fun e => ht e.1]
    rw [hA] at e20
    refine GSpec.enter (fn := Tryd.f5) Tryd.func5 rfl (by kernel_rfl) ?_
    repeat' (conv => whnf
             first
             | (((with_reducible refine CallSt.rd (f := 16) (X := .bool true) ?_ ?_); (· exact e16 _)))
             | (((with_reducible refine CallSt.rd (f := 20) (X := .tuple ⟨[.bool false, .int .i64 (toldV p w l)]⟩) ?_ ?_); (· exact e20 _ (by (repeat (first | with_reducible assumption | (with_reducible apply Buf.rd; with_reducible assumption) | (with_reducible apply Rd.appL; with_reducible assumption) | (with_reducible apply Rd.appL; with_reducible apply Buf.rd; with_reducible assumption) | (with_reducible apply Rd.ofH; with_reducible assumption) | (with_reducible apply Rd.ofH1; with_reducible assumption) | with_reducible apply Rd.cons | with_reducible apply Rd.appR))) (by (repeat (first | with_reducible assumption | (with_reducible apply Buf.rd; with_reducible assumption) | (with_reducible apply Rd.appL; with_reducible assumption) | (with_reducible apply Rd.appL; with_reducible apply Buf.rd; with_reducible assumption) | (with_reducible apply Rd.ofH; with_reducible assumption) | (with_reducible apply Rd.ofH1; with_reducible assumption) | with_reducible apply Rd.cons | with_reducible apply Rd.appR))) (by (repeat (first | with_reducible assumption | (with_reducible apply Buf.rd; with_reducible assumption) | (with_reducible apply Rd.appL; with_reducible assumption) | (with_reducible apply Rd.appL; with_reducible apply Buf.rd; with_reducible assumption) | (with_reducible apply Rd.ofH; with_reducible assumption) | (with_reducible apply Rd.ofH1; with_reducible assumption) | with_reducible apply Rd.cons | with_reducible apply Rd.appR))))))
             | (with_reducible refine NextSt.mk ?_)
             | (with_reducible refine OnBB.tt ?_)
             | (with_reducible refine OnBB.ff ?_)
             | ((with_reducible apply Cmp.yes); · first | omega | (with_reducible assumption) | (with_reducible rfl))
             | ((with_reducible apply LoadSt.boxAgg); · (repeat (first | exact List.Mem.head _ | with_reducible apply List.mem_append_right | with_reducible apply List.mem_cons_of_mem)))
             | ((with_reducible refine AllocSt.mk ?_); intro _b _hb _hbO))
    conv => whnf
    refine FinSt.ret (by (try dsimp only); (try simp only [List.cons_append, List.nil_append]); (repeat (first | with_reducible exact List.Sublist.refl _ | with_reducible exact List.nil_sublist _ | with_reducible apply List.Sublist.cons_cons | with_reducible apply sub_app | apply List.Sublist.cons_cons | apply sub_app | with_reducible apply List.Sublist.cons | with_reducible apply sub_skip))) ?_
    rfl
end Go.Proofs.YtaahjlhfmkjefaaDoor
