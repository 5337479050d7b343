/- Functions of the reference: cases. -/
import Derived.Test.YtaahjlhfmkjefaaDoorMh
import Derived.Test.YtaahjlhfmkjefaaDoorAd
set_option linter.unusedVariables false
set_option linter.unusedSimpArgs false
set_option linter.unusedSectionVars false
/- The reference's cases that remain: level by level. -/
namespace Go.Proofs.YtaahjlhfmkjefaaDoor
open Go Go.Gv
set_option maxRecDepth 100000
set_option maxHeartbeats 16000000
set_option linter.unusedSimpArgs false
set_option linter.unusedVariables false
theorem Rd.nolen1 {α : Type} {g : α → Value} {h : View} {O : Hp} {a : Option Addr} {l : List α} (H : Rd h O a (l.map g)) (ha : a = none) : l.length = 0 := by
  cases l with
  | nil => rfl
  | cons x l =>
    have := H.addr (k := 0) (by rw [List.map_cons, List.length_cons]; omega)
    rw [ha] at this; cases this
theorem AppSt.rowe1 {α : Type} {g : α → Value} {ys : List α} {m cap sb : Nat} {a : Option Addr} {P : Program} {t t2 ty e e2 : TypeId} {inf : TypeInfo} {h : View} {O : Hp} {f : Hp → Hp} {K : Value → View → Hp → Prop}
    (hO : Gv.Loc O [(sb, .cells ⟨[]⟩ e (0, 0))] f) (hr : Rd h O a (ys.map g)) (hm : ys.length = m) (h0 : a = none → m = 0) (h1 : ∀ x, (g x).oneCell' = true) (hu : P.underlying t2 = some (.slice e2)) (hsz : inf.size = 1) (z : Value) (hz : inf.zero = some z) (hzl : (cellsL z).length = 1)
    (hfit : m * inf.bytes ≤ 140737488355328) (h63 : m ≤ 9223372036854775807) (hk : ∀ b' : Buf, b'.ok 1 (ys.map g) m → K (.slice b'.a m b'.cap) h (f (b'.hp e (ys.map g)))) :
    AppSt P t t2 ty e inf (.slice (some ⟨sb, 0, none⟩) 0 0) (.slice a m cap) h O K :=
  AppSt.row1 (g := g) (xs := []) (ys := ys) (n := 0) (m := m) (b := Buf.of sb 0) (f := f) (by rw [Buf.of_hp]; exact hO) (Buf.of_ok (by simp)) hr hm h0 h1 hu hsz z hz hzl (by rw [Nat.zero_add]; exact hfit) (by rw [Nat.zero_add]; exact h63)
    (fun b' hb' => by rw [List.nil_append, Nat.zero_add] at *; exact hk b' hb')
theorem LoadSt.rdv {h : View} {O : Hp} {a b : Option Addr} {k n c : Nat} {xs : List (Option Addr × Nat × Nat)} {K : Value → Prop} (H : Rd h O a (xs.map gS)) (hj : k < xs.length) (hv : xs.getD k default = (b, n, c)) (hk : K (.slice b n c)) : LoadSt h O (blk a) (ofs a + k) none K :=
  LoadSt.rdm (g := gS) H hj (by rw [hv]; exact hk)
theorem plV_cut (p : Pl) (a : Option Addr) (c : Nat) {n : Nat} (h : n ≤ p.log.length) : plV (cutP p n) a c = [.int .i64 p.no, .int .i64 p.cell, .int .i64 p.noise, .int .i64 p.slab, .int .i64 p.jump, .int .i64 p.faults, .slice a n c] := by
  unfold plV
  rw [cut_len h]; rfl
theorem Rd.flatTake {α : Type} {g : α → List Value} {h : View} {O : Hp} {a : Option Addr} {l : List α} (n : Nat) (H : Rd h O a (l.flatMap g)) : Rd h O a ((l.take n).flatMap g) := by
  have e : l.flatMap g = (l.take n).flatMap g ++ (l.drop n).flatMap g := by rw [← List.flatMap_append, List.take_append_drop]
  rw [e] at H
  exact H.left
theorem lvl_small {p : Pl} {w : List Sp} (h : p.log.length ≤ 8) {m : Nat} (hm : m ≤ p.log.length) : (lvl p w m).length ≤ 6561 := by
  refine Nat.le_trans (lvl_len p w m) ?_
  exact Nat.le_trans (Nat.pow_le_pow_right (by decide) (Nat.le_trans hm h)) (by decide)
theorem f61 (p : Pl) (w : List Sp) (a a2 : Option Addr) (c c2 : Nat) (hp : pOk p) (hw : wOk p w) (h8 : p.log.length ≤ 8) (hcap : p.log.length ≤ c) (hcap2 : w.length ≤ c2) (h : View) (O : Hp) (hr : Rd h O a (p.log.flatMap shV)) (hr2 : Rd h O a2 (w.flatMap spV)) :
    GSpec Tryd.prog 61 [.agg ⟨plV p a c⟩, .slice a2 w.length c2] h O (New O (LLR (remV p w))) := by
  have hwl := hw.1
  show GSpec Tryd.prog 61 [.agg ⟨[.int .i64 p.no, .int .i64 p.cell, .int .i64 p.noise, .int .i64 p.slab, .int .i64 p.jump, .int .i64 p.faults, .slice a p.log.length c]⟩, _] h O _
  refine GSpec.enter (fn := Tryd.f61) Tryd.func61 rfl (by kernel_rfl) ?_
  repeat' (conv => whnf
           first
           | (with_reducible refine NextSt.mk ?_)
           | ((with_reducible refine AllocSt.mk ?_); intro _b _hb _hbO))
  rename_i bx _ _ b2 _ _
  refine LoopSt.fix [5, 6, 7, 8, 9, 10, 11, 12, 13, 16, 17, 18, 19, 20, 21, 22, 23, 24, 25, 26, 27, 28, 29, 30, 31, 32, 33, 34, 35, 36, 37, 38, 39, 40, 41, 42, 43, 44, 45, 46, 47, 48, 49, 50, 51, 52, 53, 54, 55, 56, 57, 58, 59, 60, 61, 62, 63, 64, 65, 66, 67] (fun ((m, E, a1, c1, vs) : Nat × Hp × Option Addr × Nat × List (Option Addr × Nat × Nat)) => [(5, .slice a1 vs.length c1), (6, iN (m + 1))]) (fun (m, E, a1, c1, vs) => E ++ ((bx, .cells ⟨[.int .i64 p.no, .int .i64 p.cell, .int .i64 p.noise, .int .i64 p.slab, .int .i64 p.jump, .int .i64 p.faults, .slice a p.log.length c]⟩ 24 (0, 0)) :: O)) (fun (m, E, a1, c1, vs) => m ≤ p.log.length ∧ RdH E a1 (vs.map gS) ∧ OutT E (lvl p w m) vs ∧ vs.length ≤ c1) (fun (m, _) => p.log.length + 1 - m) ((0, [(_b, .cells ⟨[.slice (some ⟨b2, 0, none⟩) 0 0]⟩ 26 (0, 0)), (b2, .cells ⟨[]⟩ 3 (0, 0))], some ⟨_b, 0, none⟩, 1, [(some ⟨b2, 0, none⟩, 0, 0)])) _ (Wk.refl _ _) (rfl) ?_ ?_ ?_
  · repeat' (first | exact True.intro | refine And.intro ?_ ?_ | rfl | exact congrArg (Value.int _) (by omega) | exact congrArg (fun n => Value.slice _ n _) (by (try dsimp only); omega))
  · refine ⟨Nat.zero_le _, Rd.own0 (List.Mem.head _), ⟨rfl, fun i hi => ?_⟩, Nat.le_refl 1⟩
    have : i = 0 := Nat.lt_one_iff.1 hi
    subst this
    exact ⟨rfl, Rd.nil, Nat.le_refl 0⟩
  · rintro ⟨m, E, a1, c1, vs⟩ d ⟨hm, her, het, hec⟩
    dsimp only at hm her het hec ⊢
    by_cases hml : m < p.log.length
    · have hn : m + 1 ≤ p.log.length := hml
      have hLl := lvl_small (w := w) h8 (m := m) (by omega)
      have hmem : ∀ i < (lvl p w m).length, ((lvl p w m).getD i []).length = m := fun i hi => by
        rw [List.getD_eq_getElem?_getD, List.getElem?_eq_getElem hi]; exact (lvl_mem (List.getElem_mem hi)).1
      have hnx : nextU p w (lvl p w m) (lvl p w m).length 0 = lvl p w (m + 1) := nextU_all
      have hcl : (w.take m).length = m := by rw [List.length_take]; omega
      have hpc := pOk_cut hp hn
      have hwc : wOk (cutP p (m + 1)) (w.take m) := wOk_cut hw hn
      have hgb : ∀ l : List Int, l.length = m + 1 → (caseOk (cutP p (m + 1)) l ∧ alive (cutP p (m + 1)) (w.take m) l ↔ good p w l) := fun l hl => good_bit hl hn
      have e78 := fun l a3 c3 hll O hr hr3 => f78 (cutP p (m + 1)) l a a3 c c3 hpc hll h O hr hr3
      have e64 := fun l a3 c3 hl hs O hr hr2 hr3 => f64 (cutP p (m + 1)) (w.take m) l a a2 a3 c c2 c3 hpc hwc (Eq.trans hl (cut_len hn).symm) hs h O hr hr2 hr3
      simp only [plV_cut p a c hn, hcl] at e78 e64
      have hrc : Rd h O a ((cutP p (m + 1)).log.flatMap shV) := Rd.flatTake (m + 1) hr
      have hrc2 : Rd h O a2 ((w.take m).flatMap spV) := Rd.flatTake m hr2
      have hvl := het.1
      generalize hL : lvl p w m = L at *
      repeat' (conv => whnf
               first
               | ((refine SlSl.hi (r := m + 1) (by omega) (by omega) ?_))
               | (with_reducible refine NextSt.mk ?_)
               | (with_reducible refine OnBB.tt ?_)
               | ((with_reducible apply Cmp.yes); · first | omega | (with_reducible assumption) | (with_reducible rfl))
               | ((with_reducible apply LoadSt.box); · (repeat (first | exact List.Mem.head _ | with_reducible apply List.mem_append_right | with_reducible apply List.mem_cons_of_mem)))
               | ((with_reducible apply LoadSt.boxAgg); · (repeat (first | exact List.Mem.head _ | with_reducible apply List.mem_append_right | with_reducible apply List.mem_cons_of_mem)))
               | ((with_reducible refine AllocSt.mk ?_); intro _b _hb _hbO)
               | ((with_reducible apply StoreSt.box); (· (repeat (first | exact Upd.hd | apply Upd.tl | apply Upd.app))); (· rfl); (· rfl); (· rfl)))
      obtain ⟨bp, hbp⟩ : ∃ x, x = _b := ⟨_, rfl⟩
      subst hbp
      refine LoopSt.fix [8, 9, 10, 11, 12, 13, 29, 30, 31, 32, 33, 34, 35, 36, 37, 38, 39, 40, 41, 42, 43, 44, 45, 46, 47, 48, 49, 50, 51, 52, 53, 54, 55, 56, 57, 58, 59, 60, 61, 62, 63, 64, 65, 66] (fun ((i, E2, B, vs2) : Nat × Hp × Buf × List (Option Addr × Nat × Nat)) => [(8, .slice B.a vs2.length B.cap), (9, iN i)]) (fun (i, E2, B, vs2) => E2 ++ (B.hp 26 (vs2.map gS) ++ ((bp, .cells ⟨[.int .i64 p.no, .int .i64 p.cell, .int .i64 p.noise, .int .i64 p.slab, .int .i64 p.jump, .int .i64 p.faults, .slice a (m + 1) c]⟩ 24 (0, 0)) :: (E ++ ((bx, .cells ⟨[.int .i64 p.no, .int .i64 p.cell, .int .i64 p.noise, .int .i64 p.slab, .int .i64 p.jump, .int .i64 p.faults, .slice a p.log.length c]⟩ 24 (0, 0)) :: O))))) (fun (i, E2, B, vs2) => i ≤ L.length ∧ B.ok 1 (vs2.map gS) vs2.length ∧ OutT E2 (nextU p w L i 0) vs2) (fun (i, _) => L.length - i) ((0, [], Buf.nil, [])) _ (Wk.refl _ _) (rfl) ?_ ?_ ?_
      · repeat' (first | exact True.intro | refine And.intro ?_ ?_ | rfl | exact congrArg (Value.int _) (by omega) | exact congrArg (fun n => Value.slice _ n _) (by (try dsimp only); omega))
      · exact ⟨Nat.zero_le _, Buf.nil_ok 1, ⟨rfl, fun i hi => by cases hi⟩⟩
      · rintro ⟨i, E2, B, vs2⟩ d ⟨hi, hB, ht2⟩
        dsimp only at hi hB ht2 ⊢
        by_cases hil : i < L.length
        · obtain ⟨a3, c3, hvi, hri⟩ := gS_at het hil
          have hlm := hmem i hil
          have hli := fun s => nextU_yes (p := p) (w := w) (ls := L) (i := i) (s := s)
          have hln := fun s => nextU_no (p := p) (w := w) (ls := L) (i := i) (s := s)
          have hld := nextU_done (p := p) (w := w) hil
          have hlb := fun s hs => nextU_len (p := p) (w := w) (ls := L) (i := i) (s := s) hs
          have hn3 : a3 = none → (L.getD i []).length = 0 := Rd.nolen1 (Rd.ofH (h := h) hri)
          generalize L.getD i [] = l at hvi hri hlm hli hln hn3
          repeat' (conv => whnf
                   first
                   | (with_reducible refine NextSt.mk ?_)
                   | (with_reducible refine OnBB.tt ?_)
                   | ((with_reducible apply Cmp.yes); · first | omega | (with_reducible assumption) | (with_reducible rfl)))
          refine LoopSt.fix [8, 10, 11, 12, 13, 35, 36, 37, 38, 39, 40, 41, 42, 43, 44, 45, 46, 47, 48, 49, 50, 51, 52, 53, 54, 55, 56, 57, 58, 59, 60, 61, 62, 63, 64, 65, 66] (fun ((s, E2, B, vs2) : Nat × Hp × Buf × List (Option Addr × Nat × Nat)) => [(8, .slice B.a vs2.length B.cap), (10, iN s)]) (fun (s, E2, B, vs2) => E2 ++ (B.hp 26 (vs2.map gS) ++ ((bp, .cells ⟨[.int .i64 p.no, .int .i64 p.cell, .int .i64 p.noise, .int .i64 p.slab, .int .i64 p.jump, .int .i64 p.faults, .slice a (m + 1) c]⟩ 24 (0, 0)) :: (E ++ ((bx, .cells ⟨[.int .i64 p.no, .int .i64 p.cell, .int .i64 p.noise, .int .i64 p.slab, .int .i64 p.jump, .int .i64 p.faults, .slice a p.log.length c]⟩ 24 (0, 0)) :: O))))) (fun (s, E2, B, vs2) => s ≤ 3 ∧ B.ok 1 (vs2.map gS) vs2.length ∧ OutT E2 (nextU p w L i s) vs2) (fun (s, _) => 3 - s) ((0, E2, B, vs2)) _ (Wk.refl _ _) (rfl) ?_ ?_ ?_
          · repeat' (first | exact True.intro | refine And.intro ?_ ?_ | rfl | exact congrArg (Value.int _) (by omega) | exact congrArg (fun n => Value.slice _ n _) (by (try dsimp only); omega))
          · exact ⟨Nat.zero_le _, hB, ht2⟩
          · clear hB ht2
            rintro ⟨s, E2, B, vs2⟩ d ⟨hs, hB, ht2⟩
            dsimp only at hs hB ht2 ⊢
            have hlbs := hlb s hs
            have hvs := ht2.1
            by_cases hs3 : s < 3
            · have hl1 : (l ++ [(s : Int)]).length = m + 1 := by rw [List.length_append, hlm]; rfl
              have hll : (l ++ [(s : Int)]).length = l.length + 1 := by rw [List.length_append]; rfl
              have hgb1 := hgb _ hl1
              have hyes := hli s
              have hno := hln s
              by_cases hc : caseOk (cutP p (m + 1)) (l ++ [(s : Int)])
              · have hsi : ∀ j < (l ++ [(s : Int)]).length, 0 ≤ (l ++ [(s : Int)]).getD j 0 ∧ (l ++ [(s : Int)]).getD j 0 ≤ 2 := fun j hj => (hc.2.1 j hj).1
                have e78s := fun a3 c3 => e78 (l ++ [(s : Int)]) a3 c3 (by omega)
                have e64s := fun a3 c3 => e64 (l ++ [(s : Int)]) a3 c3 hl1 hsi
                rw [decide_eq_true hc] at e78s
                by_cases hal : alive (cutP p (m + 1)) (w.take m) (l ++ [(s : Int)])
                · have hE : EndsR (cutP p (m + 1)) (w.take m) (l ++ [(s : Int)]) = fun v H => ∃ a c, v = .tuple ⟨[.slice a (endsO (cutP p (m + 1)) (w.take m) (l ++ [(s : Int)])).length c, .bool true]⟩ ∧ RdH H a ((endsO (cutP p (m + 1)) (w.take m) (l ++ [(s : Int)])).flatMap spV) ∧ (endsO (cutP p (m + 1)) (w.take m) (l ++ [(s : Int)])).length ≤ c := by
                    unfold EndsR; rw [decide_eq_true hal]
                  rw [hE] at e64s
                  have hst := hyes (hgb1.1 ⟨hc, hal⟩)
                  clear e78 e64 hE hgb hgb1 hyes hno hli hln hlb hsi
                  generalize endsO (cutP p (m + 1)) (w.take m) (l ++ [(s : Int)]) = EO at e64s
                  generalize hq : l ++ [(s : Int)] = l1 at *
                  generalize hU : nextU p w L i s = U at *
                  generalize hU1 : nextU p w L i (s + 1) = U1 at *
                  repeat' (conv => whnf
                           first
                           | ((refine SlSl.hi (r := m) (by omega) (by omega) ?_))
                           | (((with_reducible apply LoadSt.rdv); (· (repeat (first | with_reducible assumption | (with_reducible apply Buf.rd; with_reducible assumption) | (with_reducible apply Rd.appL; with_reducible assumption) | (with_reducible apply Rd.appL; with_reducible apply Buf.rd; with_reducible assumption) | (with_reducible apply Rd.ofH; with_reducible assumption) | (with_reducible apply Rd.ofH1; with_reducible assumption) | with_reducible apply Rd.cons | with_reducible apply Rd.appR))); (· omega); (· exact hvi)))
                           | (((apply AppSt.rowe1 (g := zI) (ys := l) (z := .int .i64 0)); (· first | exact Loc.one | exact Loc.tl Loc.one); (· (repeat (first | with_reducible assumption | (with_reducible apply Buf.rd; with_reducible assumption) | (with_reducible apply Rd.appL; with_reducible assumption) | (with_reducible apply Rd.appL; with_reducible apply Buf.rd; with_reducible assumption) | (with_reducible apply Rd.ofH; with_reducible assumption) | (with_reducible apply Rd.ofH1; with_reducible assumption) | with_reducible apply Rd.cons | with_reducible apply Rd.appR))); (· rfl); (· exact hn3); (· exact fun _ => rfl); (· rfl); (· rfl); (· rfl); (· rfl); (· (show _ * 8 ≤ _; omega)); (· omega); intro B0 hB0))
                           | (((apply AppSt.lit1 (g := zI) (x := (s : Int)) (xs := l) (z := .int .i64 0)); (· (repeat (first | with_reducible exact Loc.hd | with_reducible exact Loc.last | with_reducible exact Loc.one | with_reducible apply Loc.tl | with_reducible apply Loc.skip))); (· exact hB0); (· (repeat (first | exact List.Mem.head _ | with_reducible apply List.mem_append_right | with_reducible apply List.mem_cons_of_mem))); (· rfl); (· rfl); (· rfl); (· rfl); (· rfl); (· rfl); (· (show _ * 8 ≤ _; omega)); (· omega); intro B1 hB1; rw [hq, ← hll] at hB1 ⊢; have hLc := Buf.le hB1))
                           | (((with_reducible refine CallSt.rd (f := 78) (X := .bool true) ?_ ?_); (· (apply GSpec.cast (sp := e78s B1.a B1.cap _ ?_ ?_); (· (repeat' (first | with_reducible rfl | refine congrArg₂ List.cons ?_ ?_ | exact iN_lit _ | rfl))); (· (repeat (first | with_reducible assumption | (with_reducible apply Buf.rd; with_reducible assumption) | (with_reducible apply Rd.appL; with_reducible assumption) | (with_reducible apply Rd.appL; with_reducible apply Buf.rd; with_reducible assumption) | (with_reducible apply Rd.ofH; with_reducible assumption) | (with_reducible apply Rd.ofH1; with_reducible assumption) | with_reducible apply Rd.cons | with_reducible apply Rd.appR))); (· (repeat (first | with_reducible assumption | (with_reducible apply Buf.rd; with_reducible assumption) | (with_reducible apply Rd.appL; with_reducible assumption) | (with_reducible apply Rd.appL; with_reducible apply Buf.rd; with_reducible assumption) | (with_reducible apply Rd.ofH; with_reducible assumption) | (with_reducible apply Rd.ofH1; with_reducible assumption) | with_reducible apply Rd.cons | with_reducible apply Rd.appR)))))))
                           | (((with_reducible refine CallG.new (f := 64) (R := (fun v H => ∃ a c, v = .tuple ⟨[.slice a EO.length c, .bool true]⟩ ∧ RdH H a (EO.flatMap spV) ∧ EO.length ≤ c)) ?_ ?_); (· (apply GSpec.cast (sp := e64s B1.a B1.cap _ ?_ ?_ ?_); (· (repeat' (first | with_reducible rfl | refine congrArg₂ List.cons ?_ ?_ | exact iN_lit _ | rfl))); (· (repeat (first | with_reducible assumption | (with_reducible apply Buf.rd; with_reducible assumption) | (with_reducible apply Rd.appL; with_reducible assumption) | (with_reducible apply Rd.appL; with_reducible apply Buf.rd; with_reducible assumption) | (with_reducible apply Rd.ofH; with_reducible assumption) | (with_reducible apply Rd.ofH1; with_reducible assumption) | with_reducible apply Rd.cons | with_reducible apply Rd.appR))); (· (repeat (first | with_reducible assumption | (with_reducible apply Buf.rd; with_reducible assumption) | (with_reducible apply Rd.appL; with_reducible assumption) | (with_reducible apply Rd.appL; with_reducible apply Buf.rd; with_reducible assumption) | (with_reducible apply Rd.ofH; with_reducible assumption) | (with_reducible apply Rd.ofH1; with_reducible assumption) | with_reducible apply Rd.cons | with_reducible apply Rd.appR))); (· (repeat (first | with_reducible assumption | (with_reducible apply Buf.rd; with_reducible assumption) | (with_reducible apply Rd.appL; with_reducible assumption) | (with_reducible apply Rd.appL; with_reducible apply Buf.rd; with_reducible assumption) | (with_reducible apply Rd.ofH; with_reducible assumption) | (with_reducible apply Rd.ofH1; with_reducible assumption) | with_reducible apply Rd.cons | with_reducible apply Rd.appR))))); rintro _ H1 ⟨ea, ec, rfl, er, el⟩))
                           | (((apply AppSt.lit1 (g := gS) (x := (B1.a, l1.length, B1.cap)) (xs := vs2) (z := .slice none 0 0)); (· (repeat (first | with_reducible exact Loc.hd | with_reducible exact Loc.last | with_reducible exact Loc.one | with_reducible apply Loc.tl | with_reducible apply Loc.skip))); (· exact hB); (· (repeat (first | exact List.Mem.head _ | with_reducible apply List.mem_append_right | with_reducible apply List.mem_cons_of_mem))); (· rfl); (· rfl); (· rfl); (· rfl); (· rfl); (· rfl); (· (show _ * 24 ≤ _; omega)); (· omega); intro B2 hB2))
                           | ((with_reducible refine DrawSt.walk [0, 1, 2, 3, 4, 5, 6, 7, 8, 9, 10, 11] mixed ?_ ?_); · decide +kernel)
                           | (with_reducible refine NextSt.mk ?_)
                           | (with_reducible refine OnBB.tt ?_)
                           | (with_reducible refine OnBB.ff ?_)
                           | ((with_reducible apply NW.addN); (· first | with_reducible rfl | exact natL _); (· first | with_reducible rfl | exact natL _); (· omega))
                           | ((with_reducible apply NW.subN); (· first | with_reducible rfl | exact natL _); (· first | with_reducible rfl | exact natL _); (· omega))
                           | ((with_reducible apply Cmp.yes); · first | omega | (with_reducible assumption) | (with_reducible rfl))
                           | ((with_reducible apply LoadSt.boxAgg); · (repeat (first | exact List.Mem.head _ | with_reducible apply List.mem_append_right | with_reducible apply List.mem_cons_of_mem)))
                           | ((with_reducible refine AllocSt.mk ?_); intro _b _hb _hbO)
                           | ((with_reducible apply IdxSl.rd1); (· with_reducible assumption); (· rfl); (· first | with_reducible rfl | exact natL _); (· (first | omega | (simp only [List.length_map, List.length_append, List.length_cons, List.length_nil, List.length_take, List.length_drop, List.length_replicate, List.length_set] at *; omega))); · (first | omega | (simp only [List.length_map, List.length_append, List.length_cons, List.length_nil, List.length_take, List.length_drop, List.length_replicate, List.length_set] at *; omega))))
                  refine RoundFix.mk (s + 1, B1.hp 3 (l1.map zI) ++ E2, B2, vs2 ++ [(B1.a, l1.length, B1.cap)]) ?_ ?_ _ rfl (Wk.drop (by dsimp only; rw [List.append_assoc]; (try dsimp only); (try simp only [List.cons_append, List.nil_append]); (repeat (first | with_reducible exact List.Sublist.refl _ | with_reducible exact List.nil_sublist _ | with_reducible apply List.Sublist.cons_cons | with_reducible apply sub_app | apply List.Sublist.cons_cons | apply sub_app | with_reducible apply List.Sublist.cons | with_reducible apply sub_skip)))) ?_
                  · dsimp only; omega
                  · repeat' (first | exact True.intro | refine And.intro ?_ ?_ | exact congrArg (fun n => Value.slice B2.a n B2.cap) (by rw [List.length_append]; rfl) | rfl | exact congrArg (Value.int _) (by omega) | exact congrArg (fun n => Value.slice _ n _) (by (try dsimp only); omega))
                  · exact ⟨hs3, by rw [List.length_append]; exact hB2, by rw [hU1, hst]; exact (ht2.more fun b o mm => List.mem_append_right _ mm).push rfl (Rd.appL (Buf.rd hB1)) hLc⟩
                · have hE : EndsR (cutP p (m + 1)) (w.take m) (l ++ [(s : Int)]) = fun v H => ∃ a c, v = .tuple ⟨[.slice a (endsO (cutP p (m + 1)) (w.take m) (l ++ [(s : Int)])).length c, .bool false]⟩ ∧ RdH H a ((endsO (cutP p (m + 1)) (w.take m) (l ++ [(s : Int)])).flatMap spV) ∧ (endsO (cutP p (m + 1)) (w.take m) (l ++ [(s : Int)])).length ≤ c := by
                    unfold EndsR; rw [decide_eq_false hal]
                  rw [hE] at e64s
                  have hst := hno fun e => hal (hgb1.2 e).2
                  clear e78 e64 hE hgb hgb1 hyes hno hli hln hlb hsi
                  generalize endsO (cutP p (m + 1)) (w.take m) (l ++ [(s : Int)]) = EO at e64s
                  generalize hq : l ++ [(s : Int)] = l1 at *
                  generalize hU : nextU p w L i s = U at *
                  generalize hU1 : nextU p w L i (s + 1) = U1 at *
                  repeat' (conv => whnf
                           first
                           | ((refine SlSl.hi (r := m) (by omega) (by omega) ?_))
                           | (((with_reducible apply LoadSt.rdv); (· (repeat (first | with_reducible assumption | (with_reducible apply Buf.rd; with_reducible assumption) | (with_reducible apply Rd.appL; with_reducible assumption) | (with_reducible apply Rd.appL; with_reducible apply Buf.rd; with_reducible assumption) | (with_reducible apply Rd.ofH; with_reducible assumption) | (with_reducible apply Rd.ofH1; with_reducible assumption) | with_reducible apply Rd.cons | with_reducible apply Rd.appR))); (· omega); (· exact hvi)))
                           | (((apply AppSt.rowe1 (g := zI) (ys := l) (z := .int .i64 0)); (· first | exact Loc.one | exact Loc.tl Loc.one); (· (repeat (first | with_reducible assumption | (with_reducible apply Buf.rd; with_reducible assumption) | (with_reducible apply Rd.appL; with_reducible assumption) | (with_reducible apply Rd.appL; with_reducible apply Buf.rd; with_reducible assumption) | (with_reducible apply Rd.ofH; with_reducible assumption) | (with_reducible apply Rd.ofH1; with_reducible assumption) | with_reducible apply Rd.cons | with_reducible apply Rd.appR))); (· rfl); (· exact hn3); (· exact fun _ => rfl); (· rfl); (· rfl); (· rfl); (· rfl); (· (show _ * 8 ≤ _; omega)); (· omega); intro B0 hB0))
                           | (((apply AppSt.lit1 (g := zI) (x := (s : Int)) (xs := l) (z := .int .i64 0)); (· (repeat (first | with_reducible exact Loc.hd | with_reducible exact Loc.last | with_reducible exact Loc.one | with_reducible apply Loc.tl | with_reducible apply Loc.skip))); (· exact hB0); (· (repeat (first | exact List.Mem.head _ | with_reducible apply List.mem_append_right | with_reducible apply List.mem_cons_of_mem))); (· rfl); (· rfl); (· rfl); (· rfl); (· rfl); (· rfl); (· (show _ * 8 ≤ _; omega)); (· omega); intro B1 hB1; rw [hq, ← hll] at hB1 ⊢; have hLc := Buf.le hB1))
                           | (((with_reducible refine CallSt.rd (f := 78) (X := .bool true) ?_ ?_); (· (apply GSpec.cast (sp := e78s B1.a B1.cap _ ?_ ?_); (· (repeat' (first | with_reducible rfl | refine congrArg₂ List.cons ?_ ?_ | exact iN_lit _ | rfl))); (· (repeat (first | with_reducible assumption | (with_reducible apply Buf.rd; with_reducible assumption) | (with_reducible apply Rd.appL; with_reducible assumption) | (with_reducible apply Rd.appL; with_reducible apply Buf.rd; with_reducible assumption) | (with_reducible apply Rd.ofH; with_reducible assumption) | (with_reducible apply Rd.ofH1; with_reducible assumption) | with_reducible apply Rd.cons | with_reducible apply Rd.appR))); (· (repeat (first | with_reducible assumption | (with_reducible apply Buf.rd; with_reducible assumption) | (with_reducible apply Rd.appL; with_reducible assumption) | (with_reducible apply Rd.appL; with_reducible apply Buf.rd; with_reducible assumption) | (with_reducible apply Rd.ofH; with_reducible assumption) | (with_reducible apply Rd.ofH1; with_reducible assumption) | with_reducible apply Rd.cons | with_reducible apply Rd.appR)))))))
                           | (((with_reducible refine CallG.new (f := 64) (R := (fun v H => ∃ a c, v = .tuple ⟨[.slice a EO.length c, .bool false]⟩ ∧ RdH H a (EO.flatMap spV) ∧ EO.length ≤ c)) ?_ ?_); (· (apply GSpec.cast (sp := e64s B1.a B1.cap _ ?_ ?_ ?_); (· (repeat' (first | with_reducible rfl | refine congrArg₂ List.cons ?_ ?_ | exact iN_lit _ | rfl))); (· (repeat (first | with_reducible assumption | (with_reducible apply Buf.rd; with_reducible assumption) | (with_reducible apply Rd.appL; with_reducible assumption) | (with_reducible apply Rd.appL; with_reducible apply Buf.rd; with_reducible assumption) | (with_reducible apply Rd.ofH; with_reducible assumption) | (with_reducible apply Rd.ofH1; with_reducible assumption) | with_reducible apply Rd.cons | with_reducible apply Rd.appR))); (· (repeat (first | with_reducible assumption | (with_reducible apply Buf.rd; with_reducible assumption) | (with_reducible apply Rd.appL; with_reducible assumption) | (with_reducible apply Rd.appL; with_reducible apply Buf.rd; with_reducible assumption) | (with_reducible apply Rd.ofH; with_reducible assumption) | (with_reducible apply Rd.ofH1; with_reducible assumption) | with_reducible apply Rd.cons | with_reducible apply Rd.appR))); (· (repeat (first | with_reducible assumption | (with_reducible apply Buf.rd; with_reducible assumption) | (with_reducible apply Rd.appL; with_reducible assumption) | (with_reducible apply Rd.appL; with_reducible apply Buf.rd; with_reducible assumption) | (with_reducible apply Rd.ofH; with_reducible assumption) | (with_reducible apply Rd.ofH1; with_reducible assumption) | with_reducible apply Rd.cons | with_reducible apply Rd.appR))))); rintro _ H1 ⟨ea, ec, rfl, er, el⟩))
                           | ((with_reducible refine DrawSt.walk [0, 1, 2, 3, 4, 5, 6, 7, 8, 9, 10, 11] mixed ?_ ?_); · decide +kernel)
                           | (with_reducible refine NextSt.mk ?_)
                           | (with_reducible refine OnBB.tt ?_)
                           | (with_reducible refine OnBB.ff ?_)
                           | ((with_reducible apply NW.addN); (· first | with_reducible rfl | exact natL _); (· first | with_reducible rfl | exact natL _); (· omega))
                           | ((with_reducible apply NW.subN); (· first | with_reducible rfl | exact natL _); (· first | with_reducible rfl | exact natL _); (· omega))
                           | ((with_reducible apply Cmp.yes); · first | omega | (with_reducible assumption) | (with_reducible rfl))
                           | ((with_reducible apply LoadSt.boxAgg); · (repeat (first | exact List.Mem.head _ | with_reducible apply List.mem_append_right | with_reducible apply List.mem_cons_of_mem)))
                           | ((with_reducible refine AllocSt.mk ?_); intro _b _hb _hbO)
                           | ((with_reducible apply IdxSl.rd1); (· with_reducible assumption); (· rfl); (· first | with_reducible rfl | exact natL _); (· (first | omega | (simp only [List.length_map, List.length_append, List.length_cons, List.length_nil, List.length_take, List.length_drop, List.length_replicate, List.length_set] at *; omega))); · (first | omega | (simp only [List.length_map, List.length_append, List.length_cons, List.length_nil, List.length_take, List.length_drop, List.length_replicate, List.length_set] at *; omega))))
                  refine RoundFix.mk ((s + 1, E2, B, vs2)) ?_ ?_ _ rfl (Wk.drop (by (try dsimp only); (try simp only [List.cons_append, List.nil_append]); (repeat (first | with_reducible exact List.Sublist.refl _ | with_reducible exact List.nil_sublist _ | with_reducible apply List.Sublist.cons_cons | with_reducible apply sub_app | apply List.Sublist.cons_cons | apply sub_app | with_reducible apply List.Sublist.cons | with_reducible apply sub_skip)))) ?_
                  · dsimp only; omega
                  · repeat' (first | exact True.intro | refine And.intro ?_ ?_ | rfl | exact congrArg (Value.int _) (by omega) | exact congrArg (fun n => Value.slice _ n _) (by (try dsimp only); omega))
                  · exact ⟨hs3, hB, by rw [hU1, hst]; exact ht2⟩
              · have hst := hno fun e => hc (hgb1.2 e).1
                have e78s := fun a3 c3 => e78 (l ++ [(s : Int)]) a3 c3 (by omega)
                rw [decide_eq_false hc] at e78s
                clear e78 e64 hgb hgb1 hyes hno hli hln hlb
                generalize hq : l ++ [(s : Int)] = l1 at *
                generalize hU : nextU p w L i s = U at *
                generalize hU1 : nextU p w L i (s + 1) = U1 at *
                repeat' (conv => whnf
                         first
                         | (((with_reducible apply LoadSt.rdv); (· (repeat (first | with_reducible assumption | (with_reducible apply Buf.rd; with_reducible assumption) | (with_reducible apply Rd.appL; with_reducible assumption) | (with_reducible apply Rd.appL; with_reducible apply Buf.rd; with_reducible assumption) | (with_reducible apply Rd.ofH; with_reducible assumption) | (with_reducible apply Rd.ofH1; with_reducible assumption) | with_reducible apply Rd.cons | with_reducible apply Rd.appR))); (· omega); (· exact hvi)))
                         | (((apply AppSt.rowe1 (g := zI) (ys := l) (z := .int .i64 0)); (· first | exact Loc.one | exact Loc.tl Loc.one); (· (repeat (first | with_reducible assumption | (with_reducible apply Buf.rd; with_reducible assumption) | (with_reducible apply Rd.appL; with_reducible assumption) | (with_reducible apply Rd.appL; with_reducible apply Buf.rd; with_reducible assumption) | (with_reducible apply Rd.ofH; with_reducible assumption) | (with_reducible apply Rd.ofH1; with_reducible assumption) | with_reducible apply Rd.cons | with_reducible apply Rd.appR))); (· rfl); (· exact hn3); (· exact fun _ => rfl); (· rfl); (· rfl); (· rfl); (· rfl); (· (show _ * 8 ≤ _; omega)); (· omega); intro B0 hB0))
                         | (((apply AppSt.lit1 (g := zI) (x := (s : Int)) (xs := l) (z := .int .i64 0)); (· (repeat (first | with_reducible exact Loc.hd | with_reducible exact Loc.last | with_reducible exact Loc.one | with_reducible apply Loc.tl | with_reducible apply Loc.skip))); (· exact hB0); (· (repeat (first | exact List.Mem.head _ | with_reducible apply List.mem_append_right | with_reducible apply List.mem_cons_of_mem))); (· rfl); (· rfl); (· rfl); (· rfl); (· rfl); (· rfl); (· (show _ * 8 ≤ _; omega)); (· omega); intro B1 hB1; rw [hq, ← hll] at hB1 ⊢; have hLc := Buf.le hB1))
                         | (((with_reducible refine CallSt.rd (f := 78) (X := .bool false) ?_ ?_); (· (apply GSpec.cast (sp := e78s B1.a B1.cap _ ?_ ?_); (· (repeat' (first | with_reducible rfl | refine congrArg₂ List.cons ?_ ?_ | exact iN_lit _ | rfl))); (· (repeat (first | with_reducible assumption | (with_reducible apply Buf.rd; with_reducible assumption) | (with_reducible apply Rd.appL; with_reducible assumption) | (with_reducible apply Rd.appL; with_reducible apply Buf.rd; with_reducible assumption) | (with_reducible apply Rd.ofH; with_reducible assumption) | (with_reducible apply Rd.ofH1; with_reducible assumption) | with_reducible apply Rd.cons | with_reducible apply Rd.appR))); (· (repeat (first | with_reducible assumption | (with_reducible apply Buf.rd; with_reducible assumption) | (with_reducible apply Rd.appL; with_reducible assumption) | (with_reducible apply Rd.appL; with_reducible apply Buf.rd; with_reducible assumption) | (with_reducible apply Rd.ofH; with_reducible assumption) | (with_reducible apply Rd.ofH1; with_reducible assumption) | with_reducible apply Rd.cons | with_reducible apply Rd.appR)))))))
                         | (with_reducible refine NextSt.mk ?_)
                         | (with_reducible refine OnBB.tt ?_)
                         | (with_reducible refine OnBB.ff ?_)
                         | ((with_reducible apply NW.addN); (· first | with_reducible rfl | exact natL _); (· first | with_reducible rfl | exact natL _); (· omega))
                         | ((with_reducible apply Cmp.yes); · first | omega | (with_reducible assumption) | (with_reducible rfl))
                         | ((with_reducible apply LoadSt.boxAgg); · (repeat (first | exact List.Mem.head _ | with_reducible apply List.mem_append_right | with_reducible apply List.mem_cons_of_mem)))
                         | ((with_reducible refine AllocSt.mk ?_); intro _b _hb _hbO)
                         | ((with_reducible apply IdxSl.rd1); (· with_reducible assumption); (· rfl); (· first | with_reducible rfl | exact natL _); (· (first | omega | (simp only [List.length_map, List.length_append, List.length_cons, List.length_nil, List.length_take, List.length_drop, List.length_replicate, List.length_set] at *; omega))); · (first | omega | (simp only [List.length_map, List.length_append, List.length_cons, List.length_nil, List.length_take, List.length_drop, List.length_replicate, List.length_set] at *; omega))))
                refine RoundFix.mk ((s + 1, E2, B, vs2)) ?_ ?_ _ rfl (Wk.drop (by (try dsimp only); (try simp only [List.cons_append, List.nil_append]); (repeat (first | with_reducible exact List.Sublist.refl _ | with_reducible exact List.nil_sublist _ | with_reducible apply List.Sublist.cons_cons | with_reducible apply sub_app | apply List.Sublist.cons_cons | apply sub_app | with_reducible apply List.Sublist.cons | with_reducible apply sub_skip)))) ?_
                · dsimp only; omega
                · repeat' (first | exact True.intro | refine And.intro ?_ ?_ | rfl | exact congrArg (Value.int _) (by omega) | exact congrArg (fun n => Value.slice _ n _) (by (try dsimp only); omega))
                · exact ⟨hs3, hB, by rw [hU1, hst]; exact ht2⟩
            · have hse : s = 3 := by omega
              subst hse
              repeat' (conv => whnf
                       first
                       | (with_reducible refine NextSt.mk ?_)
                       | (with_reducible refine OnBB.ff ?_)
                       | ((with_reducible apply NW.addN); (· first | with_reducible rfl | exact natL _); (· first | with_reducible rfl | exact natL _); (· omega))
                       | ((with_reducible apply Cmp.no); · first | omega | (with_reducible assumption)))
              refine RoundFix.mk ((i + 1, E2, B, vs2)) ?_ ?_ _ rfl (Wk.drop (by (try dsimp only); (try simp only [List.cons_append, List.nil_append]); (repeat (first | with_reducible exact List.Sublist.refl _ | with_reducible exact List.nil_sublist _ | with_reducible apply List.Sublist.cons_cons | with_reducible apply sub_app | apply List.Sublist.cons_cons | apply sub_app | with_reducible apply List.Sublist.cons | with_reducible apply sub_skip)))) ?_
              · dsimp only; omega
              · repeat' (first | exact True.intro | refine And.intro ?_ ?_ | rfl | exact congrArg (Value.int _) (by omega) | exact congrArg (fun n => Value.slice _ n _) (by (try dsimp only); omega))
              · exact ⟨hil, hB, by rw [← hld]; exact ht2⟩
        · have hie : i = L.length := by omega
          subst hie
          repeat' (conv => whnf
                   first
                   | (with_reducible refine NextSt.mk ?_)
                   | (with_reducible refine OnBB.ff ?_)
                   | ((with_reducible apply NW.addN); (· first | with_reducible rfl | exact natL _); (· first | with_reducible rfl | exact natL _); (· omega))
                   | ((with_reducible apply Cmp.no); · first | omega | (with_reducible assumption)))
          refine RoundFix.mk (m + 1, E2 ++ B.hp 26 (vs2.map gS), B.a, B.cap, vs2) ?_ ?_ _ rfl (Wk.drop (by dsimp only; rw [List.append_assoc]; (try dsimp only); (try simp only [List.cons_append, List.nil_append]); (repeat (first | with_reducible exact List.Sublist.refl _ | with_reducible exact List.nil_sublist _ | with_reducible apply List.Sublist.cons_cons | with_reducible apply sub_app | apply List.Sublist.cons_cons | apply sub_app | with_reducible apply List.Sublist.cons | with_reducible apply sub_skip)))) ?_
          · dsimp only; omega
          · repeat' (first | exact True.intro | refine And.intro ?_ ?_ | rfl | exact congrArg (Value.int _) (by omega) | exact congrArg (fun n => Value.slice _ n _) (by (try dsimp only); omega))
          · exact ⟨hn, Rd.appR (Buf.rd hB), by rw [← hnx]; exact ht2.more fun b o mm => List.mem_append_left _ mm, Buf.le hB⟩
    · have hmm : m = p.log.length := by omega
      subst hmm
      repeat' (conv => whnf
               first
               | (with_reducible refine NextSt.mk ?_)
               | (with_reducible refine OnBB.ff ?_)
               | ((with_reducible apply Cmp.no); · first | omega | (with_reducible assumption))
               | ((with_reducible apply LoadSt.box); · (repeat (first | exact List.Mem.head _ | with_reducible apply List.mem_append_right | with_reducible apply List.mem_cons_of_mem))))
      have hvl := het.1
      rw [hvl] at hec ⊢
      refine FinSt.new (H := E) (by (try dsimp only); (try simp only [List.cons_append, List.nil_append]); (repeat (first | with_reducible exact List.Sublist.refl _ | with_reducible exact List.nil_sublist _ | with_reducible apply List.Sublist.cons_cons | with_reducible apply sub_app | apply List.Sublist.cons_cons | apply sub_app | with_reducible apply List.Sublist.cons | with_reducible apply sub_skip))) ?_
      exact ⟨a1, c1, vs, rfl, her, het, hec⟩
end Go.Proofs.YtaahjlhfmkjefaaDoor
/- The reference: all cases that remain; asked about an entry. -/
namespace Go.Proofs.YtaahjlhfmkjefaaDoor
open Go Go.Gv
set_option maxRecDepth 100000
set_option maxHeartbeats 16000000
set_option linter.unusedSimpArgs false
set_option linter.unusedVariables false
theorem ask_none (p : Pl) (w : List Sp) (k : Int) : askV p w k [] = if tellV p w ≠ 0 then tellV p w else if -1 ≤ k ∧ k ≤ (p.log.length : Int) - 1 then 0 else 1 := by
  unfold askV
  by_cases h : tellV p w ≠ 0
  · rw [if_pos h, if_pos h]
  · rw [if_neg h, if_neg h, if_pos (fun i hi => by cases hi)]
theorem ask_all (p : Pl) (w : List Sp) : askV p w (-1) [] = tellV p w := by
  rw [ask_none]
  by_cases h : tellV p w ≠ 0
  · rw [if_pos h]
  · rw [if_neg h, if_pos (by omega)]; omega
theorem RdLL.nil {h : View} {O : Hp} : RdLL h O none [] := ⟨[], rfl, Rd.nil, fun i hi => by cases hi⟩
/-- At most eight entries, or more than there can be. -/
def fewP (p : Pl) : Prop := p.log.length ≤ 8 ∨ 32 < p.log.length
theorem few_ok {p : Pl} {w : List Sp} (hf : fewP p) (ht : tellV p w = 0) : p.log.length ≤ 8 := by
  have := (tell_ok ht).1.1.2.2.2.2.2.2
  unfold fewP at hf
  omega
theorem f19 (p : Pl) (w : List Sp) (a a2 : Option Addr) (c c2 : Nat) (hl : p.log.length ≤ 9223372036854775807) (hw : w.length ≤ 9223372036854775807) (hf : fewP p) (hcap : p.log.length ≤ c) (hcap2 : w.length ≤ c2) (h : View) (O : Hp) (hr : Rd h O a (p.log.flatMap shV)) (hr2 : Rd h O a2 (w.flatMap spV)) :
    GSpec Tryd.prog 19 [.agg ⟨plV p a c⟩, .slice a2 w.length c2] h O (New O (CasesR p w)) := by
  have e60 := fun O hr hr2 => f60 p w (-1) [] a a2 none c c2 0 hl hw (by simp) (fun i hi => by cases hi) h O hr hr2 RdLL.nil
  rw [ask_all] at e60
  show GSpec Tryd.prog 19 [.agg ⟨[.int .i64 p.no, .int .i64 p.cell, .int .i64 p.noise, .int .i64 p.slab, .int .i64 p.jump, .int .i64 p.faults, .slice a p.log.length c]⟩, _] h O _
  by_cases ht : tellV p w = 0
  · obtain ⟨hp, hwo⟩ := tell_ok ht
    have h8 := few_ok hf ht
    rw [ht] at e60
    have e61 := fun O hr hr2 => f61 p w a a2 c c2 hp hwo h8 hcap hcap2 h O hr hr2
    have hsm : (remV p w).length ≤ 6561 := lvl_small h8 (Nat.le_refl _)
    by_cases hm : 64 < (remV p w).length
    · refine GSpec.enter (fn := Tryd.f19) Tryd.func19 rfl (by kernel_rfl) ?_
      repeat' (conv => whnf
               first
               | (((with_reducible refine CallSt.rd (f := 60) (X := .int .i64 0) ?_ ?_); (· exact e60 _ (Rd.cons hr) (Rd.cons hr2))))
               | (((with_reducible refine CallSt.new (f := 61) (R := (LLR (remV p w))) ?_ ?_); (· exact e61 _ (Rd.cons hr) (Rd.cons hr2)); rintro _ H1 ⟨la, lc, lvs, rfl, lr, lt, ll⟩))
               | (with_reducible refine NextSt.mk ?_)
               | (with_reducible refine OnBB.tt ?_)
               | (with_reducible refine OnBB.ff ?_)
               | ((with_reducible apply Cmp.yes); · first | omega | (with_reducible assumption) | (with_reducible rfl))
               | ((with_reducible apply Cmp.no); · first | omega | (with_reducible assumption))
               | ((with_reducible apply LoadSt.boxAgg); · (repeat (first | exact List.Mem.head _ | with_reducible apply List.mem_append_right | with_reducible apply List.mem_cons_of_mem)))
               | ((with_reducible refine AllocSt.mk ?_); intro _b _hb _hbO))
      conv => whnf
      refine FinSt.new (H := []) (by (try dsimp only); (try simp only [List.cons_append, List.nil_append]); (repeat (first | with_reducible exact List.Sublist.refl _ | with_reducible exact List.nil_sublist _ | with_reducible apply List.Sublist.cons_cons | with_reducible apply sub_app | apply List.Sublist.cons_cons | apply sub_app | with_reducible apply List.Sublist.cons | with_reducible apply sub_skip))) ?_
      exact CasesR.no (casesE_many ht hm) (by omega)
    · refine GSpec.enter (fn := Tryd.f19) Tryd.func19 rfl (by kernel_rfl) ?_
      repeat' (conv => whnf
               first
               | (((with_reducible refine CallSt.rd (f := 60) (X := .int .i64 0) ?_ ?_); (· exact e60 _ (Rd.cons hr) (Rd.cons hr2))))
               | (((with_reducible refine CallSt.new (f := 61) (R := (LLR (remV p w))) ?_ ?_); (· exact e61 _ (Rd.cons hr) (Rd.cons hr2)); rintro _ H1 ⟨la, lc, lvs, rfl, lr, lt, ll⟩))
               | (with_reducible refine NextSt.mk ?_)
               | (with_reducible refine OnBB.ff ?_)
               | ((with_reducible apply Cmp.no); · first | omega | (with_reducible assumption))
               | ((with_reducible apply LoadSt.boxAgg); · (repeat (first | exact List.Mem.head _ | with_reducible apply List.mem_append_right | with_reducible apply List.mem_cons_of_mem)))
               | ((with_reducible refine AllocSt.mk ?_); intro _b _hb _hbO))
      conv => whnf
      refine FinSt.new (H := H1) (by (try dsimp only); (try simp only [List.cons_append, List.nil_append]); (repeat (first | with_reducible exact List.Sublist.refl _ | with_reducible exact List.nil_sublist _ | with_reducible apply List.Sublist.cons_cons | with_reducible apply sub_app | apply List.Sublist.cons_cons | apply sub_app | with_reducible apply List.Sublist.cons | with_reducible apply sub_skip))) ?_
      exact ⟨_, by rw [casesE_ok ht hm], by rw [casesL_ok (casesE_ok ht hm)]; exact ⟨la, lc, lvs, rfl, lr, lt, ll⟩⟩
  · refine GSpec.enter (fn := Tryd.f19) Tryd.func19 rfl (by kernel_rfl) ?_
    repeat' (conv => whnf
             first
             | (((with_reducible refine CallSt.rd (f := 60) (X := .int .i64 (tellV p w)) ?_ ?_); (· exact e60 _ (Rd.cons hr) (Rd.cons hr2))))
             | (with_reducible refine NextSt.mk ?_)
             | (with_reducible refine OnBB.tt ?_)
             | ((with_reducible apply Cmp.yes); · first | omega | (with_reducible assumption) | (with_reducible rfl))
             | ((with_reducible apply LoadSt.boxAgg); · (repeat (first | exact List.Mem.head _ | with_reducible apply List.mem_append_right | with_reducible apply List.mem_cons_of_mem)))
             | ((with_reducible refine AllocSt.mk ?_); intro _b _hb _hbO))
    conv => whnf
    refine FinSt.new (H := []) (by (try dsimp only); (try simp only [List.cons_append, List.nil_append]); (repeat (first | with_reducible exact List.Sublist.refl _ | with_reducible exact List.nil_sublist _ | with_reducible apply List.Sublist.cons_cons | with_reducible apply sub_app | apply List.Sublist.cons_cons | apply sub_app | with_reducible apply List.Sublist.cons | with_reducible apply sub_skip))) ?_
    exact CasesR.no (casesE_bad ht) ht
theorem f67 (p : Pl) (w : List Sp) (k : Int) (a a2 : Option Addr) (c c2 : Nat) (hl : p.log.length ≤ 9223372036854775807) (hw : w.length ≤ 9223372036854775807) (hf : fewP p) (hcap : p.log.length ≤ c) (hcap2 : w.length ≤ c2) (h : View) (O : Hp) (hr : Rd h O a (p.log.flatMap shV)) (hr2 : Rd h O a2 (w.flatMap spV)) :
    GSpec Tryd.prog 67 [.agg ⟨plV p a c⟩, .slice a2 w.length c2, .int .i64 k] h O (New O (EntR p w k)) := by
  have e60 := fun O hr hr2 => f60 p w (max k (-2)) [] a a2 none c c2 0 hl hw (by simp) (fun i hi => by cases hi) h O hr hr2 RdLL.nil
  rw [ask_none] at e60
  have e19 := fun O hr hr2 => f19 p w a a2 c c2 hl hw hf hcap hcap2 h O hr hr2
  show GSpec Tryd.prog 67 [.agg ⟨[.int .i64 p.no, .int .i64 p.cell, .int .i64 p.noise, .int .i64 p.slab, .int .i64 p.jump, .int .i64 p.faults, .slice a p.log.length c]⟩, _, _] h O _
  by_cases ht : tellV p w = 0
  · rw [if_neg (fun e => e ht)] at e60
    by_cases hk : k < 0 ∨ (p.log.length : Int) ≤ k
    · have hE : entE p w k = 1 := (if_neg (fun e => e ht)).trans (if_pos hk)
      by_cases hk1 : k = -1
      · rw [if_pos (by omega)] at e60
        refine GSpec.enter (fn := Tryd.f67) Tryd.func67 rfl (by kernel_rfl) ?_
        repeat' (conv => whnf
                 first
                 | (((with_reducible refine CallSt.rd (f := 60) (X := .int .i64 0) ?_ ?_); (· exact e60 _ (Rd.cons hr) (Rd.cons hr2))))
                 | (with_reducible refine NextSt.mk ?_)
                 | (with_reducible refine OnBB.tt ?_)
                 | ((with_reducible apply Cmp.yes); · first | omega | (with_reducible assumption) | (with_reducible rfl))
                 | ((with_reducible apply LoadSt.boxAgg); · (repeat (first | exact List.Mem.head _ | with_reducible apply List.mem_append_right | with_reducible apply List.mem_cons_of_mem)))
                 | ((with_reducible refine AllocSt.mk ?_); intro _b _hb _hbO)
                 | (with_reducible apply MinMax.maxI))
        conv => whnf
        refine FinSt.new (H := []) (by (try dsimp only); (try simp only [List.cons_append, List.nil_append]); (repeat (first | with_reducible exact List.Sublist.refl _ | with_reducible exact List.nil_sublist _ | with_reducible apply List.Sublist.cons_cons | with_reducible apply sub_app | apply List.Sublist.cons_cons | apply sub_app | with_reducible apply List.Sublist.cons | with_reducible apply sub_skip))) ?_
        exact EntR.no hE (by omega)
      · rw [if_neg (by omega)] at e60
        refine GSpec.enter (fn := Tryd.f67) Tryd.func67 rfl (by kernel_rfl) ?_
        repeat' (conv => whnf
                 first
                 | (((with_reducible refine CallSt.rd (f := 60) (X := .int .i64 1) ?_ ?_); (· exact e60 _ (Rd.cons hr) (Rd.cons hr2))))
                 | (with_reducible refine NextSt.mk ?_)
                 | (with_reducible refine OnBB.tt ?_)
                 | (with_reducible refine OnBB.ff ?_)
                 | ((with_reducible apply Cmp.yes); · first | omega | (with_reducible assumption) | (with_reducible rfl))
                 | ((with_reducible apply Cmp.no); · first | omega | (with_reducible assumption))
                 | ((with_reducible apply LoadSt.boxAgg); · (repeat (first | exact List.Mem.head _ | with_reducible apply List.mem_append_right | with_reducible apply List.mem_cons_of_mem)))
                 | ((with_reducible refine AllocSt.mk ?_); intro _b _hb _hbO)
                 | (with_reducible apply MinMax.maxI))
        conv => whnf
        refine FinSt.new (H := []) (by (try dsimp only); (try simp only [List.cons_append, List.nil_append]); (repeat (first | with_reducible exact List.Sublist.refl _ | with_reducible exact List.nil_sublist _ | with_reducible apply List.Sublist.cons_cons | with_reducible apply sub_app | apply List.Sublist.cons_cons | apply sub_app | with_reducible apply List.Sublist.cons | with_reducible apply sub_skip))) ?_
        exact EntR.no hE (by omega)
    · have hE : entE p w k = casesE p w := (if_neg (fun e => e ht)).trans (if_neg hk)
      have hL : entL p w k = casesL p w := by unfold entL casesL; rw [hE]
      rw [if_pos (by omega)] at e60
      refine GSpec.enter (fn := Tryd.f67) Tryd.func67 rfl (by kernel_rfl) ?_
      repeat' (conv => whnf
               first
               | (((with_reducible refine CallSt.rd (f := 60) (X := .int .i64 0) ?_ ?_); (· exact e60 _ (Rd.cons hr) (Rd.cons hr2))))
               | (((with_reducible refine CallSt.new (f := 19) (R := (CasesR p w)) ?_ ?_); (· exact e19 _ (Rd.cons hr) (Rd.cons hr2)); rintro _ H1 ⟨lx, rfl, hlx⟩))
               | (with_reducible refine NextSt.mk ?_)
               | (with_reducible refine OnBB.tt ?_)
               | (with_reducible refine OnBB.ff ?_)
               | ((with_reducible apply Cmp.yes); · first | omega | (with_reducible assumption) | (with_reducible rfl))
               | ((with_reducible apply Cmp.no); · first | omega | (with_reducible assumption))
               | ((with_reducible apply LoadSt.boxAgg); · (repeat (first | exact List.Mem.head _ | with_reducible apply List.mem_append_right | with_reducible apply List.mem_cons_of_mem)))
               | ((with_reducible refine AllocSt.mk ?_); intro _b _hb _hbO)
               | (with_reducible apply MinMax.maxI))
      conv => whnf
      refine FinSt.new (H := H1) (by (try dsimp only); (try simp only [List.cons_append, List.nil_append]); (repeat (first | with_reducible exact List.Sublist.refl _ | with_reducible exact List.nil_sublist _ | with_reducible apply List.Sublist.cons_cons | with_reducible apply sub_app | apply List.Sublist.cons_cons | apply sub_app | with_reducible apply List.Sublist.cons | with_reducible apply sub_skip))) ?_
      exact ⟨lx, by rw [hE], by rw [hL]; exact hlx⟩
  · rw [if_pos ht] at e60
    refine GSpec.enter (fn := Tryd.f67) Tryd.func67 rfl (by kernel_rfl) ?_
    repeat' (conv => whnf
             first
             | (((with_reducible refine CallSt.rd (f := 60) (X := .int .i64 (tellV p w)) ?_ ?_); (· exact e60 _ (Rd.cons hr) (Rd.cons hr2))))
             | (with_reducible refine NextSt.mk ?_)
             | (with_reducible refine OnBB.tt ?_)
             | (with_reducible refine OnBB.ff ?_)
             | ((with_reducible apply Cmp.yes); · first | omega | (with_reducible assumption) | (with_reducible rfl))
             | ((with_reducible apply Cmp.no); · first | omega | (with_reducible assumption))
             | ((with_reducible apply LoadSt.boxAgg); · (repeat (first | exact List.Mem.head _ | with_reducible apply List.mem_append_right | with_reducible apply List.mem_cons_of_mem)))
             | ((with_reducible refine AllocSt.mk ?_); intro _b _hb _hbO)
             | (with_reducible apply MinMax.maxI))
    conv => whnf
    refine FinSt.new (H := []) (by (try dsimp only); (try simp only [List.cons_append, List.nil_append]); (repeat (first | with_reducible exact List.Sublist.refl _ | with_reducible exact List.nil_sublist _ | with_reducible apply List.Sublist.cons_cons | with_reducible apply sub_app | apply List.Sublist.cons_cons | apply sub_app | with_reducible apply List.Sublist.cons | with_reducible apply sub_skip))) ?_
    exact EntR.no (if_pos ht) ht
end Go.Proofs.YtaahjlhfmkjefaaDoor
