/- The law of a further entry. -/
import Derived.Test.YtaahjlhfmkjefaaDoorMt
import Derived.Test.YtaahjlhfmkjefaaDoorMl
set_option linter.unusedVariables false
set_option linter.unusedSimpArgs false
set_option linter.unusedSectionVars false
/- The law of a further entry: the walk. -/
namespace Go.Proofs.YtaahjlhfmkjefaaDoor
open Go Go.Gv
set_option maxRecDepth 100000
set_option maxHeartbeats 16000000
set_option linter.unusedSimpArgs false
set_option linter.unusedVariables false
theorem cutP_add (p : Pl) (s : Sh) : cutP (addE p s) p.log.length = p := by
  obtain ⟨a, b, c, d, e, f, l⟩ := p
  show (⟨a, b, c, d, e, f, (l ++ [s]).take l.length⟩ : Pl) = _
  rw [List.take_left]
theorem further {p : Pl} {w : List Sp} {s : Sh} {x : Sp} {l : List Int} (hn : 1 ≤ p.log.length) (hw : w.length = p.log.length - 1) (ht : tellV (addE p s) (w ++ [x]) = 0) (hl : l ∈ remV (addE p s) (w ++ [x])) :
    l.length = p.log.length + 1 ∧ toldV (addE p s) (w ++ [x]) l = 0 ∧ alive (addE p s) (w ++ [x]) l ∧ toldV p w (l.take p.log.length) = 0 ∧ alive p w (l.take p.log.length) ∧ ∀ i < p.log.length, subS (endI (addE p s) (w ++ [x]) l i) (endI p w (l.take p.log.length) i) := by
  obtain ⟨hq, hv⟩ := tell_ok ht
  have hql : (addE p s).log.length = p.log.length + 1 := by simp [addE]
  have hvw : (w ++ [x]).take (p.log.length - 1) = w := by rw [← hw]; exact List.take_left
  have hp : pOk p := by
    have := pOk_cut hq (n := p.log.length) (by omega)
    rwa [cutP_add] at this
  have hwo : wOk p w := by
    have := wOk_cut hv (n := p.log.length) (by omega)
    rwa [cutP_add, hvw] at this
  obtain ⟨hc, ha⟩ := (remV_mem hq.1.2.2.2.2.2.1.1).1 hl
  have hlen : l.length = p.log.length + 1 := hc.1.trans hql
  have hg := (caseOk_good.1 ⟨hc, ha⟩).2
  have hsp : l.take p.log.length ++ [l.getD p.log.length 0] = l := by
    have e : l = l.take p.log.length ++ l.drop p.log.length := (List.take_append_drop _ _).symm
    have e2 : l.drop p.log.length = [l.getD p.log.length 0] := by
      rw [List.drop_eq_getElem_cons (by omega), List.getD_eq_getElem?_getD, List.getElem?_eq_getElem (by omega), List.drop_eq_nil_of_le (by omega)]; rfl
    rw [← e2]; exact e.symm
  have hml : (l.take p.log.length).length = p.log.length := by rw [List.length_take]; omega
  have hgm : good p w (l.take p.log.length) := by
    rw [← hsp] at hg
    have := (good_cut (p := addE p s) (w := w ++ [x]) (n := p.log.length) (l := l.take p.log.length) (by omega)).2 (good_app hg)
    rwa [cutP_add, hvw] at this
  obtain ⟨hcm, ham⟩ := caseOk_good.2 ⟨hml, hgm⟩
  refine ⟨hlen, ?_, ha, ?_, ham, ?_⟩
  · unfold toldV; rw [if_neg (fun e => e ht), if_pos hc]
  · have htp : tellV p w = 0 := by unfold tellV; rw [if_pos hp, if_pos hwo]
    unfold toldV; rw [if_neg (fun e => e htp), if_pos hcm]
  · intro i hi
    have hf : ∀ j ≤ p.log.length - 1, fwd (addE p s) (w ++ [x]) (l.take p.log.length ++ [l.getD p.log.length 0]) j = fwd p w (l.take p.log.length) j := fun j hj => by
      rw [fwd_app (by omega)]
      have := fwd_cut (p := addE p s) (w := w ++ [x]) (l := l.take p.log.length) (n := p.log.length) (i := j) (by omega)
      rw [cutP_add, hvw] at this
      exact this.symm
    have := end_further (p := p) (q := addE p s) (w := w) (v := w ++ [x]) (l := l.take p.log.length) (s := l.getD p.log.length 0) (n := p.log.length - 1) (by omega) hf (fun j hj => getD_app (by omega)) (p.log.length - 1 - i) i (by omega)
    rwa [hsp] at this
theorem f9 (p : Pl) (w : List Sp) (s : Sh) (x : Sp) (a a2 : Option Addr) (c c2 : Nat) (hcap : p.log.length ≤ c) (hl : p.log.length ≤ 9223372036854775807) (hw : w.length ≤ 9223372036854775807) (h : View) (hpw : PowV h) (O : Hp) (hr : Rd h O a (p.log.flatMap shV)) (hr2 : Rd h O a2 (w.flatMap spV)) :
    GSpec Tryd.prog 9 [.agg ⟨plV p a c⟩, .slice a2 w.length c2, .agg ⟨shV s⟩, .agg ⟨spV x⟩] h O (Ret O (.bool true)) := by
  have e16 := fun O => f16 h hpw O
  have e39 := fun O hr => f39 p s a c hcap hl h O hr
  show GSpec Tryd.prog 9 [.agg ⟨[.int .i64 p.no, .int .i64 p.cell, .int .i64 p.noise, .int .i64 p.slab, .int .i64 p.jump, .int .i64 p.faults, .slice a p.log.length c]⟩, _, .agg ⟨[.int .i64 s.day, .int .i64 s.wt]⟩, .agg ⟨[.int .i64 x.lo, .int .i64 x.hi]⟩] h O _
  by_cases h7 : 7 < p.log.length
  · refine GSpec.enter (fn := Tryd.f9) Tryd.func9 rfl (by kernel_rfl) ?_
    repeat' (conv => whnf
             first
             | (((with_reducible refine CallSt.rd (f := 16) (X := .bool true) ?_ ?_); (· exact e16 _)))
             | (with_reducible refine NextSt.mk ?_)
             | (with_reducible refine OnBB.tt ?_)
             | (with_reducible refine OnBB.ff ?_)
             | ((with_reducible apply Cmp.yes); · first | omega | (with_reducible assumption) | (with_reducible rfl))
             | ((with_reducible apply LoadSt.box); · (repeat (first | exact List.Mem.head _ | with_reducible apply List.mem_append_right | with_reducible apply List.mem_cons_of_mem)))
             | ((with_reducible refine AllocSt.mk ?_); intro _b _hb _hbO))
    conv => whnf
    refine FinSt.ret (by (try dsimp only); (try simp only [List.cons_append, List.nil_append]); (repeat (first | with_reducible exact List.Sublist.refl _ | with_reducible exact List.nil_sublist _ | with_reducible apply List.Sublist.cons_cons | with_reducible apply sub_app | apply List.Sublist.cons_cons | apply sub_app | with_reducible apply List.Sublist.cons | with_reducible apply sub_skip))) ?_
    rfl
  · by_cases h1 : p.log.length < 1
    · refine GSpec.enter (fn := Tryd.f9) Tryd.func9 rfl (by kernel_rfl) ?_
      repeat' (conv => whnf
               first
               | (((with_reducible refine CallSt.rd (f := 16) (X := .bool true) ?_ ?_); (· exact e16 _)))
               | (with_reducible refine NextSt.mk ?_)
               | (with_reducible refine OnBB.tt ?_)
               | (with_reducible refine OnBB.ff ?_)
               | ((with_reducible apply Cmp.yes); · first | omega | (with_reducible assumption) | (with_reducible rfl))
               | ((with_reducible apply Cmp.no); · first | omega | (with_reducible assumption))
               | ((with_reducible apply LoadSt.box); · (repeat (first | exact List.Mem.head _ | with_reducible apply List.mem_append_right | with_reducible apply List.mem_cons_of_mem)))
               | ((with_reducible refine AllocSt.mk ?_); intro _b _hb _hbO))
      conv => whnf
      refine FinSt.ret (by (try dsimp only); (try simp only [List.cons_append, List.nil_append]); (repeat (first | with_reducible exact List.Sublist.refl _ | with_reducible exact List.nil_sublist _ | with_reducible apply List.Sublist.cons_cons | with_reducible apply sub_app | apply List.Sublist.cons_cons | apply sub_app | with_reducible apply List.Sublist.cons | with_reducible apply sub_skip))) ?_
      rfl
    · by_cases hA : (addV p s).2 = 0
      · have hq : addV p s = (addE p s, 0) := by
          unfold addV at hA ⊢
          split at hA
          · rename_i hp
            rw [if_pos hp]
            split at hA
            · cases hA
            · rename_i h32
              rw [if_neg h32]
              split at hA
              · rename_i hq; rw [if_pos hq]
              · cases hA
          · cases hA
        have hAR : AddR p s = fun v H => ∃ a c, v = .tuple ⟨[.agg ⟨plV (addE p s) a c⟩, .int .i64 0]⟩ ∧ RdH H a ((addE p s).log.flatMap shV) := by unfold AddR; rw [hq]
        rw [hAR] at e39
        have hql : (addE p s).log.length = p.log.length + 1 := by simp [addE]
        by_cases hwl : w.length = p.log.length - 1
        · have hvl : (w ++ [x]).length = w.length + 1 := by rw [List.length_append]; rfl
          have e18 := fun a1 c1 a5 c5 O hr hr2 => f18 (addE p s) (w ++ [x]) a1 a5 c1 c5 (by omega) (by omega) h O hr hr2
          by_cases hE : casesE (addE p s) (w ++ [x]) = 0
          · have ht : tellV (addE p s) (w ++ [x]) = 0 := Classical.byContradiction fun e => e (by rw [casesE_bad e] at hE; exact hE)
            have hCR : CasesR (addE p s) (w ++ [x]) = fun v H => ∃ y, v = .tuple ⟨[y, .int .i64 0]⟩ ∧ LLR (remV (addE p s) (w ++ [x])) y H := by unfold CasesR; rw [hE, casesL_ok hE]
            rw [hCR] at e18
            have hfu := fun l hl => further (p := p) (w := w) (s := s) (x := x) (l := l) (by omega) hwl ht hl
            have e22q := fun l hll a1 c1 a5 c5 a6 c6 O hr hr2 hr3 => f22 (addE p s) (w ++ [x]) l a1 a5 a6 c1 c5 c6 (by omega) (by omega) hll h O hr hr2 hr3
            have e22p := fun m hlm a6 c6 O hr hr2 hr3 => f22 p w m a a2 a6 c c2 c6 hl hw hlm h O hr hr2 hr3
            have hLn := casesL_len (addE p s) (w ++ [x])
            rw [casesL_ok hE] at hLn
            have hmem : ∀ i < (remV (addE p s) (w ++ [x])).length, (remV (addE p s) (w ++ [x])).getD i [] ∈ remV (addE p s) (w ++ [x]) := fun i hi => by
              rw [List.getD_eq_getElem?_getD, List.getElem?_eq_getElem hi]; exact List.getElem_mem hi
            refine GSpec.enter (fn := Tryd.f9) Tryd.func9 rfl (by kernel_rfl) ?_
            repeat' (conv => whnf
                     first
                     | (((with_reducible refine CallSt.rd (f := 16) (X := .bool true) ?_ ?_); (· exact e16 _)))
                     | (((with_reducible refine CallSt.new (f := 39) (R := (fun v H => ∃ a c, v = .tuple ⟨[.agg ⟨plV (addE p s) a c⟩, .int .i64 0]⟩ ∧ RdH H a ((addE p s).log.flatMap shV))) ?_ ?_); (· exact e39 _ (by (repeat (first | with_reducible assumption | (with_reducible apply Buf.rd; with_reducible assumption) | (with_reducible apply Rd.appL; with_reducible assumption) | (with_reducible apply Rd.appL; with_reducible apply Buf.rd; with_reducible assumption) | (with_reducible apply Rd.ofH; with_reducible assumption) | (with_reducible apply Rd.ofH1; with_reducible assumption) | with_reducible apply Rd.cons | with_reducible apply Rd.appR)))); rintro _ H0 ⟨a1, c1, rfl, hr1⟩))
                     | (with_reducible refine NextSt.mk ?_)
                     | (with_reducible refine OnBB.tt ?_)
                     | (with_reducible refine OnBB.ff ?_)
                     | ((with_reducible apply NW.subN); (· first | with_reducible rfl | exact natL _); (· first | with_reducible rfl | exact natL _); (· omega))
                     | ((with_reducible apply Cmp.no); · first | omega | (with_reducible assumption))
                     | ((with_reducible apply LoadSt.box); · (repeat (first | exact List.Mem.head _ | with_reducible apply List.mem_append_right | with_reducible apply List.mem_cons_of_mem)))
                     | ((with_reducible apply LoadSt.boxAgg); · (repeat (first | exact List.Mem.head _ | with_reducible apply List.mem_append_right | with_reducible apply List.mem_cons_of_mem)))
                     | ((with_reducible refine AllocSt.mk ?_); intro _b _hb _hbO)
                     | ((with_reducible apply StoreSt.box); (· (repeat (first | exact Upd.hd | apply Upd.tl | apply Upd.app))); (· rfl); (· rfl); (· rfl)))
            rename_i b4 _ _ b6 _ _ b7 _ _
            obtain ⟨b9, hb9⟩ : ∃ x, x = _b := ⟨_, rfl⟩
            subst hb9
            repeat' (conv => whnf
                     first
                     | (((with_reducible refine DrawSt.walkO (.one 1 (.fork (.fst 0 (.fork (.fst 2 (.one 3 (.one 4 (.one 5 (.one 6 (.nil)))))) (.fst 3 (.fork (.fst 2 (.one 4 (.one 5 (.one 6 (.nil))))) (.fst 4 (.one 2 (.one 5 (.one 6 (.nil))))))))) (.fst 3 (.fork (.fst 0 (.fork (.fst 2 (.one 4 (.one 5 (.one 6 (.nil))))) (.fst 4 (.one 2 (.one 5 (.one 6 (.nil))))))) (.fst 4 (.one 0 (.one 2 (.one 5 (.one 6 (.nil)))))))))) [0, 1, 2, 3, 4, 5, 6] mixed ?_ ?_); · decide +kernel))
                     | ((with_reducible apply And.intro))
                     | (((apply AppSt.rowe (g := spV) (ys := w) (s := 2) (z := .agg ⟨[.int .i64 0, .int .i64 0]⟩)); (· first | exact Loc.one | exact Loc.tl Loc.one); (· (repeat (first | with_reducible assumption | (with_reducible apply Buf.rd; with_reducible assumption) | (with_reducible apply Rd.appL; with_reducible assumption) | (with_reducible apply Rd.appL; with_reducible apply Buf.rd; with_reducible assumption) | (with_reducible apply Rd.ofH; with_reducible assumption) | (with_reducible apply Rd.ofH1; with_reducible assumption) | with_reducible apply Rd.cons | with_reducible apply Rd.appR))); (· rfl); (· exact Rd.nolen (s := 1) (fun _ => rfl) hr2); (· exact fun _ => rfl); (· exact fun _ => rfl); (· rfl); (· rfl); (· rfl); (· rfl); (· (show _ * 16 ≤ _; omega)); (· omega); intro B0 hB0))
                     | (((apply AppSt.litm (g := spV) (x := x) (xs := w) (s := 2) (z := .agg ⟨[.int .i64 0, .int .i64 0]⟩)); (· (repeat (first | with_reducible exact Loc.hd | with_reducible exact Loc.last | with_reducible exact Loc.one | with_reducible apply Loc.tl | with_reducible apply Loc.skip))); (· exact hB0); (· (repeat (first | exact List.Mem.head _ | with_reducible apply List.mem_append_right | with_reducible apply List.mem_cons_of_mem))); (· rfl); (· rfl); (· rfl); (· rfl); (· rfl); (· rfl); (· rfl); (· (show _ * 16 ≤ _; omega)); (· omega); intro B hB); rw [← hvl] at hB ⊢)
                     | (((with_reducible refine CallSt.new (f := 18) (R := (fun v H => ∃ y, v = .tuple ⟨[y, .int .i64 0]⟩ ∧ LLR (remV (addE p s) (w ++ [x])) y H)) ?_ ?_); (· (apply GSpec.cast (sp := e18 a1 c1 B.a B.cap _ ?_ ?_); (· (repeat' (first | with_reducible rfl | refine congrArg₂ List.cons ?_ ?_ | exact iN_lit _ | rfl))); (· (repeat (first | with_reducible assumption | (with_reducible apply Buf.rd; with_reducible assumption) | (with_reducible apply Rd.appL; with_reducible assumption) | (with_reducible apply Rd.appL; with_reducible apply Buf.rd; with_reducible assumption) | (with_reducible apply Rd.ofH; with_reducible assumption) | (with_reducible apply Rd.ofH1; with_reducible assumption) | with_reducible apply Rd.cons | with_reducible apply Rd.appR))); (· (repeat (first | with_reducible assumption | (with_reducible apply Buf.rd; with_reducible assumption) | (with_reducible apply Rd.appL; with_reducible assumption) | (with_reducible apply Rd.appL; with_reducible apply Buf.rd; with_reducible assumption) | (with_reducible apply Rd.ofH; with_reducible assumption) | (with_reducible apply Rd.ofH1; with_reducible assumption) | with_reducible apply Rd.cons | with_reducible apply Rd.appR))))); rintro _ H1 ⟨_, rfl, la, lc, lvs, rfl, lr, lt, ll⟩))
                     | (with_reducible refine NextSt.mk ?_)
                     | (with_reducible refine OnBB.ff ?_)
                     | ((with_reducible apply Cmp.no); · first | omega | (with_reducible assumption))
                     | ((with_reducible apply LoadSt.boxAgg); · (repeat (first | exact List.Mem.head _ | with_reducible apply List.mem_append_right | with_reducible apply List.mem_cons_of_mem)))
                     | ((with_reducible refine AllocSt.mk ?_); intro _b _hb _hbO))
            all_goals
              have hvl1 := lt.1
              refine LoopSt.fix [8, 14, 15, 16, 17, 18, 19, 20, 67, 68, 69, 70, 71, 72, 73, 74, 75, 76, 77, 78, 79, 80, 81, 82, 83, 84, 85, 86, 87, 88, 89, 90, 91, 92, 93, 94, 95, 96, 97, 98, 99, 100, 101, 102, 103, 104, 105, 106, 107, 108, 109, 110, 111, 112, 113, 114, 115, 116, 117, 118, 119, 120, 121, 122, 123, 124, 125, 126, 127, 128, 129, 130, 131, 132, 133, 134, 135, 136, 137, 138, 139, 140, 141, 142, 143, 144, 145, 146, 147, 148, 149, 150, 151, 152, 153, 154] (fun (i : Nat) => [(14, iN i)]) (fun _ => H1 ++ (B.hp 42 ((w ++ [x]).flatMap spV) ++ ((b9, .cells ⟨plV (addE p s) a1 c1⟩ 24 (0, 0)) :: (H0 ++ ((b7, .cells ⟨spV x⟩ 42 (0, 0)) :: (b6, .cells ⟨shV s⟩ 57 (0, 0)) :: (b4, .cells ⟨plV p a c⟩ 24 (0, 0)) :: O))))) (fun i => i ≤ (remV (addE p s) (w ++ [x])).length) (fun i => (remV (addE p s) (w ++ [x])).length - i) (0) _ (Wk.drop (by (try dsimp only); (try simp only [List.cons_append, List.nil_append]); (repeat (first | with_reducible exact List.Sublist.refl _ | with_reducible exact List.nil_sublist _ | with_reducible apply List.Sublist.cons_cons | with_reducible apply sub_app | apply List.Sublist.cons_cons | apply sub_app | with_reducible apply List.Sublist.cons | with_reducible apply sub_skip)))) (rfl) ?_ ?_ ?_
              · repeat' (first | exact True.intro | refine And.intro ?_ ?_ | rfl | exact congrArg (Value.int _) (by omega) | exact congrArg (fun n => Value.slice _ n _) (by (try dsimp only); omega))
              · exact Nat.zero_le _
              · intro i d hi
                by_cases hil : i < (remV (addE p s) (w ++ [x])).length
                · obtain ⟨a6, c6, hvi, hri⟩ := gS_at lt hil
                  have hcp := gS_cap lt hil hvi
                  obtain ⟨hll, htq, haq, htp, hap, hsub⟩ := hfu _ (hmem i hil)
                  have e22q := e22q ((remV (addE p s) (w ++ [x])).getD i []) (by omega) a1 c1 B.a B.cap a6 c6
                  have e22p := e22p (((remV (addE p s) (w ++ [x])).getD i []).take p.log.length) (by rw [List.length_take]; omega)
                  generalize (remV (addE p s) (w ++ [x])).getD i [] = l at *
                  have hml : (l.take p.log.length).length = p.log.length := by rw [List.length_take]; omega
                  have hRq : LoadsR (addE p s) (w ++ [x]) l = fun v H => ∃ a c, v = .tuple ⟨[.slice a (endsV (addE p s) (w ++ [x]) l).length c, .int .i64 0]⟩ ∧ RdH H a ((endsV (addE p s) (w ++ [x]) l).flatMap spV) ∧ (endsV (addE p s) (w ++ [x]) l).length ≤ c := by
                    unfold LoadsR loadO loadE endsO
                    rw [if_pos htq, if_pos haq, if_neg (fun e => e htq), if_pos haq]
                  have hRp : LoadsR p w (l.take p.log.length) = fun v H => ∃ a c, v = .tuple ⟨[.slice a (endsV p w (l.take p.log.length)).length c, .int .i64 0]⟩ ∧ RdH H a ((endsV p w (l.take p.log.length)).flatMap spV) ∧ (endsV p w (l.take p.log.length)).length ≤ c := by
                    unfold LoadsR loadO loadE endsO
                    rw [if_pos htp, if_pos hap, if_neg (fun e => e htp), if_pos hap]
                  rw [hRq] at e22q
                  rw [hRp, hml] at e22p
                  have hsb : ∀ k < p.log.length, ((endsV p w (l.take p.log.length)).getD k default).lo ≤ ((endsV (addE p s) (w ++ [x]) l).getD k default).lo ∧ ((endsV (addE p s) (w ++ [x]) l).getD k default).hi ≤ ((endsV p w (l.take p.log.length)).getD k default).hi := fun k hk => by
                    rw [endsV_get (by omega), endsV_get (by omega)]
                    exact hsub k hk
                  have hnl := endsV_len (addE p s) (w ++ [x]) l
                  have hbl := endsV_len p w (l.take p.log.length)
                  have hrt : RdH H1 a6 ((l.take p.log.length).map zI) := by have := Rd.take hri p.log.length; rwa [← List.map_take] at this
                  have hn6 : a6 = none → p.log.length = 0 := fun e => by have := Rd.nolen1 (Rd.ofH (h := h) hrt) e; omega
                  clear hfu hmem hRq hRp hsub e18 e39 e16
                  generalize endsV (addE p s) (w ++ [x]) l = NV at *
                  generalize endsV p w (l.take p.log.length) = BV at *
                  repeat' (conv => whnf
                           first
                           | (((with_reducible apply LoadSt.rdv); (· (repeat (first | with_reducible assumption | (with_reducible apply Buf.rd; with_reducible assumption) | (with_reducible apply Rd.appL; with_reducible assumption) | (with_reducible apply Rd.appL; with_reducible apply Buf.rd; with_reducible assumption) | (with_reducible apply Rd.ofH; with_reducible assumption) | (with_reducible apply Rd.ofH1; with_reducible assumption) | with_reducible apply Rd.cons | with_reducible apply Rd.appR))); (· omega); (· exact hvi)))
                           | (((with_reducible refine DrawSt.walkO (.one 1 (.one 3 (.one 4 (.one 5 (.one 6 (.one 7 (.fork (.fst 0 (.one 2 (.one 8 (.one 9 (.one 10 (.one 11 (.one 12 (.one 13 (.one 14 (.nil)))))))))) (.fst 2 (.fork (.fst 0 (.one 8 (.one 9 (.one 10 (.one 11 (.one 12 (.one 13 (.one 14 (.nil))))))))) (.fst 8 (.one 0 (.one 9 (.one 10 (.one 11 (.one 12 (.one 13 (.one 14 (.nil)))))))))))))))))) [0, 1, 2, 3, 4, 5, 6, 7, 8, 9, 10, 11, 12, 13, 14] mixed ?_ ?_); · decide +kernel))
                           | ((with_reducible apply And.intro))
                           | ((refine SlSl.hi (r := p.log.length) rfl (by omega) ?_))
                           | (((apply AppSt.rowe1 (g := zI) (ys := l.take p.log.length) (z := .int .i64 0)); (· first | exact Loc.one | exact Loc.tl Loc.one); (· (repeat (first | with_reducible assumption | (with_reducible apply Buf.rd; with_reducible assumption) | (with_reducible apply Rd.appL; with_reducible assumption) | (with_reducible apply Rd.appL; with_reducible apply Buf.rd; with_reducible assumption) | (with_reducible apply Rd.ofH; with_reducible assumption) | (with_reducible apply Rd.ofH1; with_reducible assumption) | with_reducible apply Rd.cons | with_reducible apply Rd.appR))); (· exact hml); (· exact hn6); (· exact fun _ => rfl); (· rfl); (· rfl); (· rfl); (· rfl); (· (show _ * 8 ≤ _; omega)); (· omega); intro B2 hB2))
                           | (((with_reducible refine CallSt.new (f := 22) (R := (fun v H => ∃ a c, v = .tuple ⟨[.slice a NV.length c, .int .i64 0]⟩ ∧ RdH H a (NV.flatMap spV) ∧ NV.length ≤ c)) ?_ ?_); (· (apply GSpec.cast (sp := e22q _ ?_ ?_ ?_); (· (repeat' (first | with_reducible rfl | refine congrArg₂ List.cons ?_ ?_ | exact iN_lit _ | rfl))); (· (repeat (first | with_reducible assumption | (with_reducible apply Buf.rd; with_reducible assumption) | (with_reducible apply Rd.appL; with_reducible assumption) | (with_reducible apply Rd.appL; with_reducible apply Buf.rd; with_reducible assumption) | (with_reducible apply Rd.ofH; with_reducible assumption) | (with_reducible apply Rd.ofH1; with_reducible assumption) | with_reducible apply Rd.cons | with_reducible apply Rd.appR))); (· (repeat (first | with_reducible assumption | (with_reducible apply Buf.rd; with_reducible assumption) | (with_reducible apply Rd.appL; with_reducible assumption) | (with_reducible apply Rd.appL; with_reducible apply Buf.rd; with_reducible assumption) | (with_reducible apply Rd.ofH; with_reducible assumption) | (with_reducible apply Rd.ofH1; with_reducible assumption) | with_reducible apply Rd.cons | with_reducible apply Rd.appR))); (· (repeat (first | with_reducible assumption | (with_reducible apply Buf.rd; with_reducible assumption) | (with_reducible apply Rd.appL; with_reducible assumption) | (with_reducible apply Rd.appL; with_reducible apply Buf.rd; with_reducible assumption) | (with_reducible apply Rd.ofH; with_reducible assumption) | (with_reducible apply Rd.ofH1; with_reducible assumption) | with_reducible apply Rd.cons | with_reducible apply Rd.appR))))); rintro _ H3 ⟨na, nc, rfl, nr, nl⟩))
                           | (((with_reducible refine CallG.new (f := 22) (R := (fun v H => ∃ a c, v = .tuple ⟨[.slice a BV.length c, .int .i64 0]⟩ ∧ RdH H a (BV.flatMap spV) ∧ BV.length ≤ c)) ?_ ?_); (· (apply GSpec.cast (sp := e22p B2.a B2.cap _ ?_ ?_ ?_); (· (repeat' (first | with_reducible rfl | refine congrArg₂ List.cons ?_ ?_ | exact iN_lit _ | rfl))); (· (repeat (first | with_reducible assumption | (with_reducible apply Buf.rd; with_reducible assumption) | (with_reducible apply Rd.appL; with_reducible assumption) | (with_reducible apply Rd.appL; with_reducible apply Buf.rd; with_reducible assumption) | (with_reducible apply Rd.ofH; with_reducible assumption) | (with_reducible apply Rd.ofH1; with_reducible assumption) | with_reducible apply Rd.cons | with_reducible apply Rd.appR))); (· (repeat (first | with_reducible assumption | (with_reducible apply Buf.rd; with_reducible assumption) | (with_reducible apply Rd.appL; with_reducible assumption) | (with_reducible apply Rd.appL; with_reducible apply Buf.rd; with_reducible assumption) | (with_reducible apply Rd.ofH; with_reducible assumption) | (with_reducible apply Rd.ofH1; with_reducible assumption) | with_reducible apply Rd.cons | with_reducible apply Rd.appR))); (· (repeat (first | with_reducible assumption | (with_reducible apply Buf.rd; with_reducible assumption) | (with_reducible apply Rd.appL; with_reducible assumption) | (with_reducible apply Rd.appL; with_reducible apply Buf.rd; with_reducible assumption) | (with_reducible apply Rd.ofH; with_reducible assumption) | (with_reducible apply Rd.ofH1; with_reducible assumption) | with_reducible apply Rd.cons | with_reducible apply Rd.appR))))); rintro _ H4 ⟨ba, bc, rfl, br, bl⟩))
                           | (with_reducible refine NextSt.mk ?_)
                           | (with_reducible refine OnBB.tt ?_)
                           | (with_reducible refine OnBB.ff ?_)
                           | ((with_reducible apply NW.addN); (· first | with_reducible rfl | exact natL _); (· first | with_reducible rfl | exact natL _); (· omega))
                           | ((with_reducible apply Cmp.yes); · first | omega | (with_reducible assumption) | (with_reducible rfl))
                           | ((with_reducible apply Cmp.no); · first | omega | (with_reducible assumption))
                           | ((with_reducible apply LoadSt.box); · (repeat (first | exact List.Mem.head _ | with_reducible apply List.mem_append_right | with_reducible apply List.mem_cons_of_mem)))
                           | ((with_reducible apply LoadSt.boxAgg); · (repeat (first | exact List.Mem.head _ | with_reducible apply List.mem_append_right | with_reducible apply List.mem_cons_of_mem)))
                           | ((with_reducible refine AllocSt.mk ?_); intro _b _hb _hbO)
                           | ((with_reducible apply IdxSl.rd1); (· with_reducible assumption); (· rfl); (· first | with_reducible rfl | exact natL _); (· (first | omega | (simp only [List.length_map, List.length_append, List.length_cons, List.length_nil, List.length_take, List.length_drop, List.length_replicate, List.length_set] at *; omega))); · (first | omega | (simp only [List.length_map, List.length_append, List.length_cons, List.length_nil, List.length_take, List.length_drop, List.length_replicate, List.length_set] at *; omega))))
                  all_goals
                    refine LoopSt.fix [8, 20, 125, 126, 127, 128, 129, 130, 131, 132, 133, 134, 135, 136, 137, 138, 139, 140, 141, 142, 143, 144, 145, 146, 147, 148, 149, 150, 151, 152, 153, 154] (fun (k : Nat) => [(20, iN k)]) (fun _ => _) (fun k => k ≤ BV.length) (fun k => BV.length - k) (0) _ (Wk.refl _ _) (rfl) ?_ ?_ ?_
                    · repeat' (first | exact True.intro | refine And.intro ?_ ?_ | rfl | exact congrArg (Value.int _) (by omega) | exact congrArg (fun n => Value.slice _ n _) (by (try dsimp only); omega))
                    · exact Nat.zero_le _
                    · intro k d hk
                      by_cases hkl : k < BV.length
                      · have hs := hsb k (by omega)
                        repeat' (conv => whnf
                                 first
                                 | ((with_reducible refine DrawSt.walk [0, 1, 2, 3, 4, 5, 6, 7, 8, 9, 10, 11, 12, 13, 14, 15, 16, 17, 18, 19, 20, 21, 22, 23] mixed ?_ ?_); · decide +kernel)
                                 | ((with_reducible apply LoadSt.rdf (g := spV) (s := 2)); (· (repeat (first | with_reducible assumption | (with_reducible apply Rd.any; with_reducible assumption) | (with_reducible apply Buf.rd; with_reducible assumption) | (with_reducible apply Rd.appL; with_reducible assumption) | (with_reducible apply Rd.appL; with_reducible apply Buf.rd; with_reducible assumption) | (with_reducible apply Rd.ofH; with_reducible assumption) | (with_reducible apply Rd.ofH1; with_reducible assumption) | with_reducible apply Rd.cons | with_reducible apply Rd.appR))); (· exact fun _ => rfl); (· (first | omega | (simp only [List.length_map, List.length_append, List.length_cons, List.length_nil, List.length_take, List.length_drop, List.length_replicate, List.length_set] at *; omega))); (· decide))
                                 | ((with_reducible apply IdxSl.rdg (g := spV) (s := 2)); (· with_reducible assumption); (· exact fun _ => rfl); (· decide); (· rfl); (· first | with_reducible rfl | exact natL _); (· (first | omega | (simp only [List.length_map, List.length_append, List.length_cons, List.length_nil, List.length_take, List.length_drop, List.length_replicate, List.length_set] at *; omega))); · (first | omega | (simp only [List.length_map, List.length_append, List.length_cons, List.length_nil, List.length_take, List.length_drop, List.length_replicate, List.length_set] at *; omega)))
                                 | (with_reducible refine NextSt.mk ?_)
                                 | (with_reducible refine OnBB.tt ?_)
                                 | (with_reducible refine OnBB.ff ?_)
                                 | ((with_reducible apply NW.addN); (· first | with_reducible rfl | exact natL _); (· first | with_reducible rfl | exact natL _); (· omega))
                                 | ((with_reducible apply Cmp.yes); · first | omega | (with_reducible assumption) | (with_reducible rfl))
                                 | ((with_reducible apply Cmp.no); · first | omega | (with_reducible assumption)))
                        refine RoundFix.mk (k + 1) ?_ ?_ _ rfl (Wk.drop (by (try dsimp only); (try simp only [List.cons_append, List.nil_append]); (repeat (first | with_reducible exact List.Sublist.refl _ | with_reducible exact List.nil_sublist _ | with_reducible apply List.Sublist.cons_cons | with_reducible apply sub_app | apply List.Sublist.cons_cons | apply sub_app | with_reducible apply List.Sublist.cons | with_reducible apply sub_skip)))) ?_
                        · omega
                        · repeat' (first | exact True.intro | refine And.intro ?_ ?_ | rfl | exact congrArg (Value.int _) (by omega) | exact congrArg (fun n => Value.slice _ n _) (by (try dsimp only); omega))
                        · exact hkl
                      · repeat' (conv => whnf
                                 first
                                 | (with_reducible refine NextSt.mk ?_)
                                 | (with_reducible refine OnBB.ff ?_)
                                 | ((with_reducible apply NW.addN); (· first | with_reducible rfl | exact natL _); (· first | with_reducible rfl | exact natL _); (· omega))
                                 | ((with_reducible apply Cmp.no); · first | omega | (with_reducible assumption)))
                        refine RoundFix.mk (i + 1) ?_ ?_ _ rfl (Wk.drop (by (try dsimp only); (try simp only [List.cons_append, List.nil_append]); (repeat (first | with_reducible exact List.Sublist.refl _ | with_reducible exact List.nil_sublist _ | with_reducible apply List.Sublist.cons_cons | with_reducible apply sub_app | apply List.Sublist.cons_cons | apply sub_app | with_reducible apply List.Sublist.cons | with_reducible apply sub_skip)))) ?_
                        · omega
                        · repeat' (first | exact True.intro | refine And.intro ?_ ?_ | rfl | exact congrArg (Value.int _) (by omega) | exact congrArg (fun n => Value.slice _ n _) (by (try dsimp only); omega))
                        · exact hil
                · repeat' (conv => whnf
                           first
                           | (with_reducible refine NextSt.mk ?_)
                           | (with_reducible refine OnBB.ff ?_)
                           | ((with_reducible apply Cmp.no); · first | omega | (with_reducible assumption)))
                  conv => whnf
                  refine FinSt.ret (by (try dsimp only); (try simp only [List.cons_append, List.nil_append]); (repeat (first | with_reducible exact List.Sublist.refl _ | with_reducible exact List.nil_sublist _ | with_reducible apply List.Sublist.cons_cons | with_reducible apply sub_app | apply List.Sublist.cons_cons | apply sub_app | with_reducible apply List.Sublist.cons | with_reducible apply sub_skip))) ?_
                  rfl
          · have hCR : CasesR (addE p s) (w ++ [x]) = fun v H => ∃ y, v = .tuple ⟨[y, .int .i64 (casesE (addE p s) (w ++ [x]))]⟩ ∧ ∃ a c vs, y = .slice a 0 c ∧ RdH H a (vs.map gS) ∧ OutT H [] vs ∧ 0 ≤ c := by unfold CasesR; rw [casesL_no hE]; rfl
            rw [hCR] at e18
            refine GSpec.enter (fn := Tryd.f9) Tryd.func9 rfl (by kernel_rfl) ?_
            repeat' (conv => whnf
                     first
                     | (((with_reducible refine CallSt.rd (f := 16) (X := .bool true) ?_ ?_); (· exact e16 _)))
                     | (((with_reducible refine CallSt.new (f := 39) (R := (fun v H => ∃ a c, v = .tuple ⟨[.agg ⟨plV (addE p s) a c⟩, .int .i64 0]⟩ ∧ RdH H a ((addE p s).log.flatMap shV))) ?_ ?_); (· exact e39 _ (by (repeat (first | with_reducible assumption | (with_reducible apply Buf.rd; with_reducible assumption) | (with_reducible apply Rd.appL; with_reducible assumption) | (with_reducible apply Rd.appL; with_reducible apply Buf.rd; with_reducible assumption) | (with_reducible apply Rd.ofH; with_reducible assumption) | (with_reducible apply Rd.ofH1; with_reducible assumption) | with_reducible apply Rd.cons | with_reducible apply Rd.appR)))); rintro _ H0 ⟨a1, c1, rfl, hr1⟩))
                     | (((with_reducible refine DrawSt.walkO (.one 1 (.fork (.fst 0 (.fork (.fst 2 (.one 3 (.one 4 (.one 5 (.one 6 (.nil)))))) (.fst 3 (.fork (.fst 2 (.one 4 (.one 5 (.one 6 (.nil))))) (.fst 4 (.one 2 (.one 5 (.one 6 (.nil))))))))) (.fst 3 (.fork (.fst 0 (.fork (.fst 2 (.one 4 (.one 5 (.one 6 (.nil))))) (.fst 4 (.one 2 (.one 5 (.one 6 (.nil))))))) (.fst 4 (.one 0 (.one 2 (.one 5 (.one 6 (.nil)))))))))) [0, 1, 2, 3, 4, 5, 6] mixed ?_ ?_); · decide +kernel))
                     | ((with_reducible apply And.intro))
                     | (((apply AppSt.rowe (g := spV) (ys := w) (s := 2) (z := .agg ⟨[.int .i64 0, .int .i64 0]⟩)); (· first | exact Loc.one | exact Loc.tl Loc.one); (· (repeat (first | with_reducible assumption | (with_reducible apply Buf.rd; with_reducible assumption) | (with_reducible apply Rd.appL; with_reducible assumption) | (with_reducible apply Rd.appL; with_reducible apply Buf.rd; with_reducible assumption) | (with_reducible apply Rd.ofH; with_reducible assumption) | (with_reducible apply Rd.ofH1; with_reducible assumption) | with_reducible apply Rd.cons | with_reducible apply Rd.appR))); (· rfl); (· exact Rd.nolen (s := 1) (fun _ => rfl) hr2); (· exact fun _ => rfl); (· exact fun _ => rfl); (· rfl); (· rfl); (· rfl); (· rfl); (· (show _ * 16 ≤ _; omega)); (· omega); intro B0 hB0))
                     | (((apply AppSt.litm (g := spV) (x := x) (xs := w) (s := 2) (z := .agg ⟨[.int .i64 0, .int .i64 0]⟩)); (· (repeat (first | with_reducible exact Loc.hd | with_reducible exact Loc.last | with_reducible exact Loc.one | with_reducible apply Loc.tl | with_reducible apply Loc.skip))); (· exact hB0); (· (repeat (first | exact List.Mem.head _ | with_reducible apply List.mem_append_right | with_reducible apply List.mem_cons_of_mem))); (· rfl); (· rfl); (· rfl); (· rfl); (· rfl); (· rfl); (· rfl); (· (show _ * 16 ≤ _; omega)); (· omega); intro B hB); rw [← hvl] at hB ⊢)
                     | (((with_reducible refine CallSt.new (f := 18) (R := (fun v H => ∃ y, v = .tuple ⟨[y, .int .i64 (casesE (addE p s) (w ++ [x]))]⟩ ∧ ∃ a c vs, y = .slice a 0 c ∧ RdH H a (vs.map gS) ∧ OutT H [] vs ∧ 0 ≤ c)) ?_ ?_); (· (apply GSpec.cast (sp := e18 a1 c1 B.a B.cap _ ?_ ?_); (· (repeat' (first | with_reducible rfl | refine congrArg₂ List.cons ?_ ?_ | exact iN_lit _ | rfl))); (· (repeat (first | with_reducible assumption | (with_reducible apply Buf.rd; with_reducible assumption) | (with_reducible apply Rd.appL; with_reducible assumption) | (with_reducible apply Rd.appL; with_reducible apply Buf.rd; with_reducible assumption) | (with_reducible apply Rd.ofH; with_reducible assumption) | (with_reducible apply Rd.ofH1; with_reducible assumption) | with_reducible apply Rd.cons | with_reducible apply Rd.appR))); (· (repeat (first | with_reducible assumption | (with_reducible apply Buf.rd; with_reducible assumption) | (with_reducible apply Rd.appL; with_reducible assumption) | (with_reducible apply Rd.appL; with_reducible apply Buf.rd; with_reducible assumption) | (with_reducible apply Rd.ofH; with_reducible assumption) | (with_reducible apply Rd.ofH1; with_reducible assumption) | with_reducible apply Rd.cons | with_reducible apply Rd.appR))))); rintro _ H1 ⟨_, rfl, la, lc, lvs, rfl, lr, lt, ll⟩))
                     | (with_reducible refine NextSt.mk ?_)
                     | (with_reducible refine OnBB.tt ?_)
                     | (with_reducible refine OnBB.ff ?_)
                     | ((with_reducible apply NW.subN); (· first | with_reducible rfl | exact natL _); (· first | with_reducible rfl | exact natL _); (· omega))
                     | ((with_reducible apply Cmp.yes); · first | omega | (with_reducible assumption) | (with_reducible rfl))
                     | ((with_reducible apply Cmp.no); · first | omega | (with_reducible assumption))
                     | ((with_reducible apply LoadSt.box); · (repeat (first | exact List.Mem.head _ | with_reducible apply List.mem_append_right | with_reducible apply List.mem_cons_of_mem)))
                     | ((with_reducible apply LoadSt.boxAgg); · (repeat (first | exact List.Mem.head _ | with_reducible apply List.mem_append_right | with_reducible apply List.mem_cons_of_mem)))
                     | ((with_reducible refine AllocSt.mk ?_); intro _b _hb _hbO)
                     | ((with_reducible apply StoreSt.box); (· (repeat (first | exact Upd.hd | apply Upd.tl | apply Upd.app))); (· rfl); (· rfl); (· rfl)))
            all_goals ((conv => whnf); refine FinSt.ret (by (try dsimp only); (try simp only [List.cons_append, List.nil_append]); (repeat (first | with_reducible exact List.Sublist.refl _ | with_reducible exact List.nil_sublist _ | with_reducible apply List.Sublist.cons_cons | with_reducible apply sub_app | apply List.Sublist.cons_cons | apply sub_app | with_reducible apply List.Sublist.cons | with_reducible apply sub_skip))) ?_; rfl)
        · refine GSpec.enter (fn := Tryd.f9) Tryd.func9 rfl (by kernel_rfl) ?_
          repeat' (conv => whnf
                   first
                   | (((with_reducible refine CallSt.rd (f := 16) (X := .bool true) ?_ ?_); (· exact e16 _)))
                   | (((with_reducible refine CallSt.new (f := 39) (R := (fun v H => ∃ a c, v = .tuple ⟨[.agg ⟨plV (addE p s) a c⟩, .int .i64 0]⟩ ∧ RdH H a ((addE p s).log.flatMap shV))) ?_ ?_); (· exact e39 _ (by (repeat (first | with_reducible assumption | (with_reducible apply Buf.rd; with_reducible assumption) | (with_reducible apply Rd.appL; with_reducible assumption) | (with_reducible apply Rd.appL; with_reducible apply Buf.rd; with_reducible assumption) | (with_reducible apply Rd.ofH; with_reducible assumption) | (with_reducible apply Rd.ofH1; with_reducible assumption) | with_reducible apply Rd.cons | with_reducible apply Rd.appR)))); rintro _ H0 ⟨a1, c1, rfl, hr1⟩))
                   | (with_reducible refine NextSt.mk ?_)
                   | (with_reducible refine OnBB.tt ?_)
                   | (with_reducible refine OnBB.ff ?_)
                   | ((with_reducible apply NW.subN); (· first | with_reducible rfl | exact natL _); (· first | with_reducible rfl | exact natL _); (· omega))
                   | ((with_reducible apply Cmp.yes); · first | omega | (with_reducible assumption) | (with_reducible rfl))
                   | ((with_reducible apply Cmp.no); · first | omega | (with_reducible assumption))
                   | ((with_reducible apply LoadSt.box); · (repeat (first | exact List.Mem.head _ | with_reducible apply List.mem_append_right | with_reducible apply List.mem_cons_of_mem)))
                   | ((with_reducible apply LoadSt.boxAgg); · (repeat (first | exact List.Mem.head _ | with_reducible apply List.mem_append_right | with_reducible apply List.mem_cons_of_mem)))
                   | ((with_reducible refine AllocSt.mk ?_); intro _b _hb _hbO)
                   | ((with_reducible apply StoreSt.box); (· (repeat (first | exact Upd.hd | apply Upd.tl | apply Upd.app))); (· rfl); (· rfl); (· rfl)))
          conv => whnf
          refine FinSt.ret (by (try dsimp only); (try simp only [List.cons_append, List.nil_append]); (repeat (first | with_reducible exact List.Sublist.refl _ | with_reducible exact List.nil_sublist _ | with_reducible apply List.Sublist.cons_cons | with_reducible apply sub_app | apply List.Sublist.cons_cons | apply sub_app | with_reducible apply List.Sublist.cons | with_reducible apply sub_skip))) ?_
          rfl
      · refine GSpec.enter (fn := Tryd.f9) Tryd.func9 rfl (by kernel_rfl) ?_
        repeat' (conv => whnf
                 first
                 | (((with_reducible refine CallSt.rd (f := 16) (X := .bool true) ?_ ?_); (· exact e16 _)))
                 | (((with_reducible refine CallSt.new (f := 39) (R := (AddR p s)) ?_ ?_); (· exact e39 _ (by (repeat (first | with_reducible assumption | (with_reducible apply Buf.rd; with_reducible assumption) | (with_reducible apply Rd.appL; with_reducible assumption) | (with_reducible apply Rd.appL; with_reducible apply Buf.rd; with_reducible assumption) | (with_reducible apply Rd.ofH; with_reducible assumption) | (with_reducible apply Rd.ofH1; with_reducible assumption) | with_reducible apply Rd.cons | with_reducible apply Rd.appR)))); rintro _ H0 ⟨a1, c1, rfl, hr1⟩))
                 | (with_reducible refine NextSt.mk ?_)
                 | (with_reducible refine OnBB.tt ?_)
                 | (with_reducible refine OnBB.ff ?_)
                 | ((with_reducible apply Cmp.yes); · first | omega | (with_reducible assumption) | (with_reducible rfl))
                 | ((with_reducible apply Cmp.no); · first | omega | (with_reducible assumption))
                 | ((with_reducible apply LoadSt.box); · (repeat (first | exact List.Mem.head _ | with_reducible apply List.mem_append_right | with_reducible apply List.mem_cons_of_mem)))
                 | ((with_reducible apply LoadSt.boxAgg); · (repeat (first | exact List.Mem.head _ | with_reducible apply List.mem_append_right | with_reducible apply List.mem_cons_of_mem)))
                 | ((with_reducible refine AllocSt.mk ?_); intro _b _hb _hbO)
                 | ((with_reducible apply StoreSt.box); (· (repeat (first | exact Upd.hd | apply Upd.tl | apply Upd.app))); (· rfl); (· rfl); (· rfl)))
        conv => whnf
        refine FinSt.ret (by (try dsimp only); (try simp only [List.cons_append, List.nil_append]); (repeat (first | with_reducible exact List.Sublist.refl _ | with_reducible exact List.nil_sublist _ | with_reducible apply List.Sublist.cons_cons | with_reducible apply sub_app | apply List.Sublist.cons_cons | apply sub_app | with_reducible apply List.Sublist.cons | with_reducible apply sub_skip))) ?_
        rfl
end Go.Proofs.YtaahjlhfmkjefaaDoor
