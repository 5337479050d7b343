/- The laws of trees. -/
import Derived.Test.YtaahjlhfmkjefaaDoorMr
import Derived.Test.YtaahjlhfmkjefaaDoorMt
set_option linter.unusedVariables false
set_option linter.unusedSimpArgs false
set_option linter.unusedSectionVars false
/- How many beginnings remain, by their length: the program's function and the reference's. -/
namespace Go.Proofs.YtaahjlhfmkjefaaDoor
open Go Go.Gv
set_option maxRecDepth 100000
set_option maxHeartbeats 16000000
set_option linter.unusedSimpArgs false
set_option linter.unusedVariables false
def TreeR (p : Pl) (w : List Sp) (v : Value) (H : Hp) : Prop := ∃ a c, v = .tuple ⟨[.slice a (treeL p w).length c, .int .i64 (treeE p w)]⟩ ∧ RdH H a ((treeL p w).map zI)
theorem TreeR.no {p : Pl} {w : List Sp} {e : Int} (h : treeE p w = e) (h0 : e ≠ 0) : TreeR p w (.tuple ⟨[.slice none 0 0, .int .i64 e]⟩) [] := by
  have hL : treeL p w = [] := if_neg (by rw [h]; exact h0)
  exact ⟨none, 0, by rw [hL, h]; rfl, by rw [hL]; exact Rd.nil⟩
theorem treeE_bad {p : Pl} {w : List Sp} (h : tellV p w ≠ 0) : treeE p w = tellV p w := if_pos h
theorem treeE_many {p : Pl} {w : List Sp} {m : Nat} (h : tellV p w = 0) (hm : m < p.log.length) (h2 : 64 < (lvl p w (m + 1)).length) : treeE p w = 2 := (if_neg (fun e => e h)).trans (if_pos ⟨m, hm, h2⟩)
theorem treeE_ok {p : Pl} {w : List Sp} (h : tellV p w = 0) (h2 : ∀ j < p.log.length, ¬ 64 < (lvl p w (j + 1)).length) : treeE p w = 0 := (if_neg (fun e => e h)).trans (if_neg fun ⟨n, h3, h4⟩ => h2 n h3 h4)
theorem f41 (p : Pl) (w : List Sp) (a a2 : Option Addr) (c c2 : Nat) (hl : p.log.length ≤ 9223372036854775807) (hw : w.length ≤ 9223372036854775807) (hcap : p.log.length ≤ c) (hcap2 : w.length ≤ c2) (h : View) (O : Hp) (hr : Rd h O a (p.log.flatMap shV)) (hr2 : Rd h O a2 (w.flatMap spV)) :
    GSpec Tryd.prog 41 [.agg ⟨plV p a c⟩, .slice a2 w.length c2] h O (New O (TreeR p w)) := by
  have e58 := fun O hr hr2 => f58 p w a a2 c c2 hl hw h O hr hr2
  show GSpec Tryd.prog 41 [.agg ⟨[.int .i64 p.no, .int .i64 p.cell, .int .i64 p.noise, .int .i64 p.slab, .int .i64 p.jump, .int .i64 p.faults, .slice a p.log.length c]⟩, _] h O _
  by_cases ht : tellV p w = 0
  · obtain ⟨hp, hwo⟩ := tell_ok ht
    have hpl := hp.1.2.2.2.2.2.2
    have hwl := hwo.1
    rw [ht] at e58
    refine GSpec.enter (fn := Tryd.f41) Tryd.func41 rfl (by kernel_rfl) ?_
    repeat' (conv => whnf
             first
             | (((with_reducible refine CallSt.rd (f := 58) (X := .int .i64 0) ?_ ?_); (· exact e58 _ (Rd.cons hr) (Rd.cons hr2))))
             | (with_reducible refine NextSt.mk ?_)
             | (with_reducible refine OnBB.ff ?_)
             | ((with_reducible apply Cmp.no); · first | omega | (with_reducible assumption))
             | ((with_reducible apply LoadSt.box); · (repeat (first | exact List.Mem.head _ | with_reducible apply List.mem_append_right | with_reducible apply List.mem_cons_of_mem)))
             | ((with_reducible apply LoadSt.boxAgg); · (repeat (first | exact List.Mem.head _ | with_reducible apply List.mem_append_right | with_reducible apply List.mem_cons_of_mem)))
             | ((with_reducible refine AllocSt.mk ?_); intro _b _hb _hbO))
    obtain ⟨bx, hbx⟩ : ∃ x, x = _b := ⟨_, rfl⟩
    subst hbx
    refine LoopSt.fix [4, 5, 7, 8, 9, 10, 20, 21, 22, 23, 24, 25, 26, 27, 28, 29, 30, 31, 32, 33, 34, 35, 36, 37, 38, 39, 40, 41, 42, 43, 44] (fun ((m, C) : Nat × Buf) => [(7, .slice C.a m C.cap), (20, iN m)]) (fun (m, C) => C.hp 3 ((treeT p w m).map zI) ++ ((bx, .cells ⟨[.int .i64 p.no, .int .i64 p.cell, .int .i64 p.noise, .int .i64 p.slab, .int .i64 p.jump, .int .i64 p.faults, .slice a p.log.length c]⟩ 24 (0, 0)) :: O)) (fun (m, C) => m ≤ p.log.length ∧ (∀ j < m, ¬ 64 < (lvl p w (j + 1)).length) ∧ C.ok 1 ((treeT p w m).map zI) m) (fun (m, C) => p.log.length - m) ((0, Buf.nil)) _ (Wk.refl _ _) (rfl) ?_ ?_ ?_
    · repeat' (first | exact True.intro | refine And.intro ?_ ?_ | rfl | exact congrArg (Value.int _) (by omega) | exact congrArg (fun n => Value.slice _ n _) (by (try dsimp only); omega))
    · exact ⟨Nat.zero_le _, fun j hj => by omega, Buf.nil_ok 1⟩
    · rintro ⟨m, C⟩ d ⟨hm, hall, hC⟩
      dsimp only at hm hall hC ⊢
      by_cases hml : m < p.log.length
      · have hn : m + 1 ≤ p.log.length := hml
        have hcl : (w.take m).length = m := by rw [List.length_take]; omega
        have hpc := pOk_cut hp hn
        have hwc : wOk (cutP p (m + 1)) (w.take m) := wOk_cut hwo hn
        have hrem : remV (cutP p (m + 1)) (w.take m) = lvl p w (m + 1) := remV_cut hn
        have e59 := fun O (hr : Rd h O a ((cutP p (m + 1)).log.flatMap shV)) (hr2 : Rd h O a2 ((w.take m).flatMap spV)) => GSpec.shown (h := h) (O := O) fn59 fun hn ha => f59 (cutP p (m + 1)) (w.take m) a a2 c c2 64 hpc hwc (by omega) (Gv.pub h O) (hr.pub hn ha) (hr2.pub hn ha)
        simp only [plV_cut p a c hn, hcl, hrem, List.cons_append, List.nil_append] at e59
        have hrc : Rd h O a ((cutP p (m + 1)).log.flatMap shV) := Rd.flatTake (m + 1) hr
        have hrc2 : Rd h O a2 ((w.take m).flatMap spV) := Rd.flatTake m hr2
        have hts := treeT_succ p w m
        have hX := treeE_many (m := m) ht hml
        have htk : ((lvl p w (m + 1)).take (64 + 1)).length = min 65 (lvl p w (m + 1)).length := List.length_take
        generalize hLL : lvl p w (m + 1) = L at *
        by_cases hbig : 64 < L.length
        · have hlt : (L.take (64 + 1)).length = 65 := by omega
          generalize L.take (64 + 1) = L1 at *
          repeat' (conv => whnf
                   first
                   | ((refine SlSl.hi (r := m + 1) (by omega) (by omega) ?_))
                   | ((refine SlSl.hi (r := m) (by omega) (by omega) ?_))
                   | (((with_reducible refine CallG.new (f := 59) (R := (LLR L1)) ?_ ?_); (· (apply GSpec.cast (sp := e59 _ ?_ ?_); (· (repeat' (first | with_reducible rfl | refine congrArg₂ List.cons ?_ ?_ | exact iN_lit _ | rfl))); (· (repeat (first | with_reducible assumption | (with_reducible apply Buf.rd; with_reducible assumption) | (with_reducible apply Rd.appL; with_reducible assumption) | (with_reducible apply Rd.appL; with_reducible apply Buf.rd; with_reducible assumption) | (with_reducible apply Rd.ofH; with_reducible assumption) | (with_reducible apply Rd.ofH1; with_reducible assumption) | with_reducible apply Rd.cons | with_reducible apply Rd.appR))); (· (repeat (first | with_reducible assumption | (with_reducible apply Buf.rd; with_reducible assumption) | (with_reducible apply Rd.appL; with_reducible assumption) | (with_reducible apply Rd.appL; with_reducible apply Buf.rd; with_reducible assumption) | (with_reducible apply Rd.ofH; with_reducible assumption) | (with_reducible apply Rd.ofH1; with_reducible assumption) | with_reducible apply Rd.cons | with_reducible apply Rd.appR))))); rintro _ H1 ⟨la, lc, lvs, rfl, lr, lt, ll⟩))
                   | ((with_reducible refine DrawSt.walk [0, 1, 2, 3, 4, 5, 6, 7, 8] mixed ?_ ?_); · decide +kernel)
                   | (with_reducible refine NextSt.mk ?_)
                   | (with_reducible refine OnBB.tt ?_)
                   | ((with_reducible apply NW.addN); (· first | with_reducible rfl | exact natL _); (· first | with_reducible rfl | exact natL _); (· omega))
                   | ((with_reducible apply Cmp.yes); · first | omega | (with_reducible assumption) | (with_reducible rfl))
                   | ((with_reducible apply LoadSt.box); · (repeat (first | exact List.Mem.head _ | with_reducible apply List.mem_append_right | with_reducible apply List.mem_cons_of_mem)))
                   | ((with_reducible apply LoadSt.boxAgg); · (repeat (first | exact List.Mem.head _ | with_reducible apply List.mem_append_right | with_reducible apply List.mem_cons_of_mem)))
                   | ((with_reducible refine AllocSt.mk ?_); intro _b _hb _hbO)
                   | ((with_reducible apply StoreSt.box); (· (repeat (first | exact Upd.hd | apply Upd.tl | apply Upd.app))); (· rfl); (· rfl); (· rfl)))
          conv => whnf
          refine FinSt.new (H := []) (by (try dsimp only); (try simp only [List.cons_append, List.nil_append]); (repeat (first | with_reducible exact List.Sublist.refl _ | with_reducible exact List.nil_sublist _ | with_reducible apply List.Sublist.cons_cons | with_reducible apply sub_app | apply List.Sublist.cons_cons | apply sub_app | with_reducible apply List.Sublist.cons | with_reducible apply sub_skip))) ?_
          exact TreeR.no (hX hbig) (by omega)
        · have hlt : L.take (64 + 1) = L := List.take_of_length_le (by omega)
          rw [hlt] at e59
          have htl := treeT_len p w m
          generalize hT1 : treeT p w (m + 1) = T1 at *
          repeat' (conv => whnf
                   first
                   | ((refine SlSl.hi (r := m + 1) (by omega) (by omega) ?_))
                   | ((refine SlSl.hi (r := m) (by omega) (by omega) ?_))
                   | (((with_reducible refine CallG.new (f := 59) (R := (LLR L)) ?_ ?_); (· (apply GSpec.cast (sp := e59 _ ?_ ?_); (· (repeat' (first | with_reducible rfl | refine congrArg₂ List.cons ?_ ?_ | exact iN_lit _ | rfl))); (· (repeat (first | with_reducible assumption | (with_reducible apply Buf.rd; with_reducible assumption) | (with_reducible apply Rd.appL; with_reducible assumption) | (with_reducible apply Rd.appL; with_reducible apply Buf.rd; with_reducible assumption) | (with_reducible apply Rd.ofH; with_reducible assumption) | (with_reducible apply Rd.ofH1; with_reducible assumption) | with_reducible apply Rd.cons | with_reducible apply Rd.appR))); (· (repeat (first | with_reducible assumption | (with_reducible apply Buf.rd; with_reducible assumption) | (with_reducible apply Rd.appL; with_reducible assumption) | (with_reducible apply Rd.appL; with_reducible apply Buf.rd; with_reducible assumption) | (with_reducible apply Rd.ofH; with_reducible assumption) | (with_reducible apply Rd.ofH1; with_reducible assumption) | with_reducible apply Rd.cons | with_reducible apply Rd.appR))))); rintro _ H1 ⟨la, lc, lvs, rfl, lr, lt, ll⟩))
                   | (((apply AppSt.lit1 (g := zI) (x := (L.length : Int)) (xs := treeT p w m) (z := .int .i64 0)); (· (repeat (first | with_reducible exact Loc.hd | with_reducible exact Loc.last | with_reducible exact Loc.one | with_reducible apply Loc.tl | with_reducible apply Loc.skip))); (· exact hC); (· (repeat (first | exact List.Mem.head _ | with_reducible apply List.mem_append_right | with_reducible apply List.mem_cons_of_mem))); (· rfl); (· rfl); (· rfl); (· rfl); (· rfl); (· rfl); (· (show _ * 8 ≤ _; omega)); (· omega); intro C1 hC1; rw [← hts] at hC1 ⊢))
                   | ((with_reducible refine DrawSt.walk [0, 1, 2, 3, 4, 5, 6, 7, 8] mixed ?_ ?_); · decide +kernel)
                   | (with_reducible refine NextSt.mk ?_)
                   | (with_reducible refine OnBB.tt ?_)
                   | (with_reducible refine OnBB.ff ?_)
                   | ((with_reducible apply NW.addN); (· first | with_reducible rfl | exact natL _); (· first | with_reducible rfl | exact natL _); (· omega))
                   | ((with_reducible apply Cmp.yes); · first | omega | (with_reducible assumption) | (with_reducible rfl))
                   | ((with_reducible apply Cmp.no); · first | omega | (with_reducible assumption))
                   | ((with_reducible apply LoadSt.box); · (repeat (first | exact List.Mem.head _ | with_reducible apply List.mem_append_right | with_reducible apply List.mem_cons_of_mem)))
                   | ((with_reducible apply LoadSt.boxAgg); · (repeat (first | exact List.Mem.head _ | with_reducible apply List.mem_append_right | with_reducible apply List.mem_cons_of_mem)))
                   | ((with_reducible refine AllocSt.mk ?_); intro _b _hb _hbO)
                   | ((with_reducible apply StoreSt.box); (· (repeat (first | exact Upd.hd | apply Upd.tl | apply Upd.app))); (· rfl); (· rfl); (· rfl)))
          subst hT1
          refine RoundFix.mk ((m + 1, C1)) ?_ ?_ _ rfl (Wk.drop (by (try dsimp only); (try simp only [List.cons_append, List.nil_append]); (repeat (first | with_reducible exact List.Sublist.refl _ | with_reducible exact List.nil_sublist _ | with_reducible apply List.Sublist.cons_cons | with_reducible apply sub_app | apply List.Sublist.cons_cons | apply sub_app | with_reducible apply List.Sublist.cons | with_reducible apply sub_skip)))) ?_
          · dsimp only; omega
          · repeat' (first | exact True.intro | refine And.intro ?_ ?_ | rfl | exact congrArg (Value.int _) (by omega) | exact congrArg (fun n => Value.slice _ n _) (by (try dsimp only); omega))
          · refine ⟨hn, fun j hj => ?_, hC1⟩
            by_cases e : j = m
            · rw [e, hLL]; exact hbig
            · exact hall j (by omega)
      · have hmm : m = p.log.length := by omega
        subst hmm
        have hE := treeE_ok ht hall
        have hL : treeL p w = treeT p w p.log.length := if_pos hE
        repeat' (conv => whnf
                 first
                 | (with_reducible refine NextSt.mk ?_)
                 | (with_reducible refine OnBB.ff ?_)
                 | ((with_reducible apply Cmp.no); · first | omega | (with_reducible assumption)))
        conv => whnf
        refine FinSt.new (H := C.hp 3 ((treeT p w p.log.length).map zI)) (by (try dsimp only); (try simp only [List.cons_append, List.nil_append]); (repeat (first | with_reducible exact List.Sublist.refl _ | with_reducible exact List.nil_sublist _ | with_reducible apply List.Sublist.cons_cons | with_reducible apply sub_app | apply List.Sublist.cons_cons | apply sub_app | with_reducible apply List.Sublist.cons | with_reducible apply sub_skip))) ?_
        exact ⟨C.a, C.cap, by rw [hL, hE, treeT_len], by rw [hL]; exact Buf.rd hC⟩
  · refine GSpec.enter (fn := Tryd.f41) Tryd.func41 rfl (by kernel_rfl) ?_
    repeat' (conv => whnf
             first
             | (((with_reducible refine CallSt.rd (f := 58) (X := .int .i64 (tellV p w)) ?_ ?_); (· exact e58 _ (Rd.cons hr) (Rd.cons hr2))))
             | (with_reducible refine NextSt.mk ?_)
             | (with_reducible refine OnBB.tt ?_)
             | ((with_reducible apply Cmp.yes); · first | omega | (with_reducible assumption) | (with_reducible rfl))
             | ((with_reducible apply LoadSt.boxAgg); · (repeat (first | exact List.Mem.head _ | with_reducible apply List.mem_append_right | with_reducible apply List.mem_cons_of_mem)))
             | ((with_reducible refine AllocSt.mk ?_); intro _b _hb _hbO))
    conv => whnf
    refine FinSt.new (H := []) (by (try dsimp only); (try simp only [List.cons_append, List.nil_append]); (repeat (first | with_reducible exact List.Sublist.refl _ | with_reducible exact List.nil_sublist _ | with_reducible apply List.Sublist.cons_cons | with_reducible apply sub_app | apply List.Sublist.cons_cons | apply sub_app | with_reducible apply List.Sublist.cons | with_reducible apply sub_skip))) ?_
    exact TreeR.no (treeE_bad ht) ht
theorem f49 (p : Pl) (w : List Sp) (a a2 : Option Addr) (c c2 : Nat) (hl : p.log.length ≤ 9223372036854775807) (hw : w.length ≤ 9223372036854775807) (hf : fewP p) (hcap : p.log.length ≤ c) (hcap2 : w.length ≤ c2) (h : View) (O : Hp) (hr : Rd h O a (p.log.flatMap shV)) (hr2 : Rd h O a2 (w.flatMap spV)) :
    GSpec Tryd.prog 49 [.agg ⟨plV p a c⟩, .slice a2 w.length c2] h O (New O (TreeR p w)) := by
  have e60 := fun O hr hr2 => f60 p w (-1) [] a a2 none c c2 0 hl hw (by simp) (fun i hi => by cases hi) h O hr hr2 RdLL.nil
  rw [ask_all] at e60
  show GSpec Tryd.prog 49 [.agg ⟨[.int .i64 p.no, .int .i64 p.cell, .int .i64 p.noise, .int .i64 p.slab, .int .i64 p.jump, .int .i64 p.faults, .slice a p.log.length c]⟩, _] h O _
  by_cases ht : tellV p w = 0
  · obtain ⟨hp, hwo⟩ := tell_ok ht
    have hpl := hp.1.2.2.2.2.2.2
    have h8 := few_ok hf ht
    have hwl := hwo.1
    rw [ht] at e60
    refine GSpec.enter (fn := Tryd.f49) Tryd.func49 rfl (by kernel_rfl) ?_
    repeat' (conv => whnf
             first
             | (((with_reducible refine CallSt.rd (f := 60) (X := .int .i64 0) ?_ ?_); (· exact e60 _ (Rd.cons hr) (Rd.cons hr2))))
             | (with_reducible refine NextSt.mk ?_)
             | (with_reducible refine OnBB.ff ?_)
             | ((with_reducible apply Cmp.no); · first | omega | (with_reducible assumption))
             | ((with_reducible apply LoadSt.boxAgg); · (repeat (first | exact List.Mem.head _ | with_reducible apply List.mem_append_right | with_reducible apply List.mem_cons_of_mem)))
             | ((with_reducible refine AllocSt.mk ?_); intro _b _hb _hbO))
    obtain ⟨bx, hbx⟩ : ∃ x, x = _b := ⟨_, rfl⟩
    subst hbx
    refine LoopSt.fix [4, 5, 7, 8, 9, 10, 17, 18, 19, 20, 21, 22, 23, 24, 25, 26, 27, 28, 29, 30, 31, 32, 33, 34, 35, 36, 37, 38, 39, 40, 41, 42] (fun ((m, C) : Nat × Buf) => [(7, .slice C.a m C.cap), (8, iN (m + 1))]) (fun (m, C) => C.hp 3 ((treeT p w m).map zI) ++ ((bx, .cells ⟨[.int .i64 p.no, .int .i64 p.cell, .int .i64 p.noise, .int .i64 p.slab, .int .i64 p.jump, .int .i64 p.faults, .slice a p.log.length c]⟩ 24 (0, 0)) :: O)) (fun (m, C) => m ≤ p.log.length ∧ (∀ j < m, ¬ 64 < (lvl p w (j + 1)).length) ∧ C.ok 1 ((treeT p w m).map zI) m) (fun (m, C) => p.log.length + 1 - m) ((0, Buf.nil)) _ (Wk.refl _ _) (rfl) ?_ ?_ ?_
    · repeat' (first | exact True.intro | refine And.intro ?_ ?_ | rfl | exact congrArg (Value.int _) (by omega) | exact congrArg (fun n => Value.slice _ n _) (by (try dsimp only); omega))
    · exact ⟨Nat.zero_le _, fun j hj => by omega, Buf.nil_ok 1⟩
    · rintro ⟨m, C⟩ d ⟨hm, hall, hC⟩
      dsimp only at hm hall hC ⊢
      by_cases hml : m < p.log.length
      · have hn : m + 1 ≤ p.log.length := hml
        have hcl : (w.take m).length = m := by rw [List.length_take]; omega
        have hlc := cut_len hn
        have hpc := pOk_cut hp hn
        have hwc : wOk (cutP p (m + 1)) (w.take m) := wOk_cut hwo hn
        have hrem : remV (cutP p (m + 1)) (w.take m) = lvl p w (m + 1) := remV_cut hn
        have e61 := fun O (hr : Rd h O a ((cutP p (m + 1)).log.flatMap shV)) (hr2 : Rd h O a2 ((w.take m).flatMap spV)) => f61 (cutP p (m + 1)) (w.take m) a a2 c c2 hpc hwc (by omega) (by omega) (by omega) h O hr hr2
        simp only [plV_cut p a c hn, hcl, hrem] at e61
        have hrc : Rd h O a ((cutP p (m + 1)).log.flatMap shV) := Rd.flatTake (m + 1) hr
        have hrc2 : Rd h O a2 ((w.take m).flatMap spV) := Rd.flatTake m hr2
        have hts := treeT_succ p w m
        have hX := treeE_many (m := m) ht hml
        have hsm := lvl_small (w := w) h8 hn
        generalize hLL : lvl p w (m + 1) = L at *
        by_cases hbig : 64 < L.length
        · repeat' (conv => whnf
                   first
                   | ((refine SlSl.hi (r := m + 1) (by omega) (by omega) ?_))
                   | ((refine SlSl.hi (r := m) (by omega) (by omega) ?_))
                   | (((with_reducible refine CallG.new (f := 61) (R := (LLR L)) ?_ ?_); (· (apply GSpec.cast (sp := e61 _ ?_ ?_); (· (repeat' (first | with_reducible rfl | refine congrArg₂ List.cons ?_ ?_ | exact iN_lit _ | rfl))); (· (repeat (first | with_reducible assumption | (with_reducible apply Buf.rd; with_reducible assumption) | (with_reducible apply Rd.appL; with_reducible assumption) | (with_reducible apply Rd.appL; with_reducible apply Buf.rd; with_reducible assumption) | (with_reducible apply Rd.ofH; with_reducible assumption) | (with_reducible apply Rd.ofH1; with_reducible assumption) | with_reducible apply Rd.cons | with_reducible apply Rd.appR))); (· (repeat (first | with_reducible assumption | (with_reducible apply Buf.rd; with_reducible assumption) | (with_reducible apply Rd.appL; with_reducible assumption) | (with_reducible apply Rd.appL; with_reducible apply Buf.rd; with_reducible assumption) | (with_reducible apply Rd.ofH; with_reducible assumption) | (with_reducible apply Rd.ofH1; with_reducible assumption) | with_reducible apply Rd.cons | with_reducible apply Rd.appR))))); rintro _ H1 ⟨la, lc, lvs, rfl, lr, lt, ll⟩))
                   | ((with_reducible refine DrawSt.walk [0, 1, 2, 3, 4, 5, 6, 7] mixed ?_ ?_); · decide +kernel)
                   | (with_reducible refine NextSt.mk ?_)
                   | (with_reducible refine OnBB.tt ?_)
                   | ((with_reducible apply NW.subN); (· first | with_reducible rfl | exact natL _); (· first | with_reducible rfl | exact natL _); (· omega))
                   | ((with_reducible apply Cmp.yes); · first | omega | (with_reducible assumption) | (with_reducible rfl))
                   | ((with_reducible apply LoadSt.box); · (repeat (first | exact List.Mem.head _ | with_reducible apply List.mem_append_right | with_reducible apply List.mem_cons_of_mem)))
                   | ((with_reducible apply LoadSt.boxAgg); · (repeat (first | exact List.Mem.head _ | with_reducible apply List.mem_append_right | with_reducible apply List.mem_cons_of_mem)))
                   | ((with_reducible refine AllocSt.mk ?_); intro _b _hb _hbO)
                   | ((with_reducible apply StoreSt.box); (· (repeat (first | exact Upd.hd | apply Upd.tl | apply Upd.app))); (· rfl); (· rfl); (· rfl)))
          conv => whnf
          refine FinSt.new (H := []) (by (try dsimp only); (try simp only [List.cons_append, List.nil_append]); (repeat (first | with_reducible exact List.Sublist.refl _ | with_reducible exact List.nil_sublist _ | with_reducible apply List.Sublist.cons_cons | with_reducible apply sub_app | apply List.Sublist.cons_cons | apply sub_app | with_reducible apply List.Sublist.cons | with_reducible apply sub_skip))) ?_
          exact TreeR.no (hX hbig) (by omega)
        · have htl := treeT_len p w m
          generalize hT1 : treeT p w (m + 1) = T1 at *
          repeat' (conv => whnf
                   first
                   | ((refine SlSl.hi (r := m + 1) (by omega) (by omega) ?_))
                   | ((refine SlSl.hi (r := m) (by omega) (by omega) ?_))
                   | (((with_reducible refine CallG.new (f := 61) (R := (LLR L)) ?_ ?_); (· (apply GSpec.cast (sp := e61 _ ?_ ?_); (· (repeat' (first | with_reducible rfl | refine congrArg₂ List.cons ?_ ?_ | exact iN_lit _ | rfl))); (· (repeat (first | with_reducible assumption | (with_reducible apply Buf.rd; with_reducible assumption) | (with_reducible apply Rd.appL; with_reducible assumption) | (with_reducible apply Rd.appL; with_reducible apply Buf.rd; with_reducible assumption) | (with_reducible apply Rd.ofH; with_reducible assumption) | (with_reducible apply Rd.ofH1; with_reducible assumption) | with_reducible apply Rd.cons | with_reducible apply Rd.appR))); (· (repeat (first | with_reducible assumption | (with_reducible apply Buf.rd; with_reducible assumption) | (with_reducible apply Rd.appL; with_reducible assumption) | (with_reducible apply Rd.appL; with_reducible apply Buf.rd; with_reducible assumption) | (with_reducible apply Rd.ofH; with_reducible assumption) | (with_reducible apply Rd.ofH1; with_reducible assumption) | with_reducible apply Rd.cons | with_reducible apply Rd.appR))))); rintro _ H1 ⟨la, lc, lvs, rfl, lr, lt, ll⟩))
                   | (((apply AppSt.lit1 (g := zI) (x := (L.length : Int)) (xs := treeT p w m) (z := .int .i64 0)); (· (repeat (first | with_reducible exact Loc.hd | with_reducible exact Loc.last | with_reducible exact Loc.one | with_reducible apply Loc.tl | with_reducible apply Loc.skip))); (· exact hC); (· (repeat (first | exact List.Mem.head _ | with_reducible apply List.mem_append_right | with_reducible apply List.mem_cons_of_mem))); (· rfl); (· rfl); (· rfl); (· rfl); (· rfl); (· rfl); (· (show _ * 8 ≤ _; omega)); (· omega); intro C1 hC1; rw [← hts] at hC1 ⊢))
                   | ((with_reducible refine DrawSt.walk [0, 1, 2, 3, 4, 5, 6, 7] mixed ?_ ?_); · decide +kernel)
                   | (with_reducible refine NextSt.mk ?_)
                   | (with_reducible refine OnBB.tt ?_)
                   | (with_reducible refine OnBB.ff ?_)
                   | ((with_reducible apply NW.addN); (· first | with_reducible rfl | exact natL _); (· first | with_reducible rfl | exact natL _); (· omega))
                   | ((with_reducible apply NW.subN); (· first | with_reducible rfl | exact natL _); (· first | with_reducible rfl | exact natL _); (· omega))
                   | ((with_reducible apply Cmp.yes); · first | omega | (with_reducible assumption) | (with_reducible rfl))
                   | ((with_reducible apply Cmp.no); · first | omega | (with_reducible assumption))
                   | ((with_reducible apply LoadSt.box); · (repeat (first | exact List.Mem.head _ | with_reducible apply List.mem_append_right | with_reducible apply List.mem_cons_of_mem)))
                   | ((with_reducible apply LoadSt.boxAgg); · (repeat (first | exact List.Mem.head _ | with_reducible apply List.mem_append_right | with_reducible apply List.mem_cons_of_mem)))
                   | ((with_reducible refine AllocSt.mk ?_); intro _b _hb _hbO)
                   | ((with_reducible apply StoreSt.box); (· (repeat (first | exact Upd.hd | apply Upd.tl | apply Upd.app))); (· rfl); (· rfl); (· rfl)))
          subst hT1
          refine RoundFix.mk ((m + 1, C1)) ?_ ?_ _ rfl (Wk.drop (by (try dsimp only); (try simp only [List.cons_append, List.nil_append]); (repeat (first | with_reducible exact List.Sublist.refl _ | with_reducible exact List.nil_sublist _ | with_reducible apply List.Sublist.cons_cons | with_reducible apply sub_app | apply List.Sublist.cons_cons | apply sub_app | with_reducible apply List.Sublist.cons | with_reducible apply sub_skip)))) ?_
          · dsimp only; omega
          · repeat' (first | exact True.intro | refine And.intro ?_ ?_ | rfl | exact congrArg (Value.int _) (by omega) | exact congrArg (fun n => Value.slice _ n _) (by (try dsimp only); omega))
          · refine ⟨hn, fun j hj => ?_, hC1⟩
            by_cases e : j = m
            · rw [e, hLL]; exact hbig
            · exact hall j (by omega)
      · have hmm : m = p.log.length := by omega
        subst hmm
        have hE := treeE_ok ht hall
        have hL : treeL p w = treeT p w p.log.length := if_pos hE
        repeat' (conv => whnf
                 first
                 | (with_reducible refine NextSt.mk ?_)
                 | (with_reducible refine OnBB.ff ?_)
                 | ((with_reducible apply Cmp.no); · first | omega | (with_reducible assumption))
                 | ((with_reducible apply LoadSt.box); · (repeat (first | exact List.Mem.head _ | with_reducible apply List.mem_append_right | with_reducible apply List.mem_cons_of_mem))))
        conv => whnf
        refine FinSt.new (H := C.hp 3 ((treeT p w p.log.length).map zI)) (by (try dsimp only); (try simp only [List.cons_append, List.nil_append]); (repeat (first | with_reducible exact List.Sublist.refl _ | with_reducible exact List.nil_sublist _ | with_reducible apply List.Sublist.cons_cons | with_reducible apply sub_app | apply List.Sublist.cons_cons | apply sub_app | with_reducible apply List.Sublist.cons | with_reducible apply sub_skip))) ?_
        exact ⟨C.a, C.cap, by rw [hL, hE, treeT_len], by rw [hL]; exact Buf.rd hC⟩
  · refine GSpec.enter (fn := Tryd.f49) Tryd.func49 rfl (by kernel_rfl) ?_
    repeat' (conv => whnf
             first
             | (((with_reducible refine CallSt.rd (f := 60) (X := .int .i64 (tellV p w)) ?_ ?_); (· exact e60 _ (Rd.cons hr) (Rd.cons hr2))))
             | (with_reducible refine NextSt.mk ?_)
             | (with_reducible refine OnBB.tt ?_)
             | ((with_reducible apply Cmp.yes); · first | omega | (with_reducible assumption) | (with_reducible rfl))
             | ((with_reducible apply LoadSt.boxAgg); · (repeat (first | exact List.Mem.head _ | with_reducible apply List.mem_append_right | with_reducible apply List.mem_cons_of_mem)))
             | ((with_reducible refine AllocSt.mk ?_); intro _b _hb _hbO))
    conv => whnf
    refine FinSt.new (H := []) (by (try dsimp only); (try simp only [List.cons_append, List.nil_append]); (repeat (first | with_reducible exact List.Sublist.refl _ | with_reducible exact List.nil_sublist _ | with_reducible apply List.Sublist.cons_cons | with_reducible apply sub_app | apply List.Sublist.cons_cons | apply sub_app | with_reducible apply List.Sublist.cons | with_reducible apply sub_skip))) ?_
    exact TreeR.no (treeE_bad ht) ht
end Go.Proofs.YtaahjlhfmkjefaaDoor
/- The laws of trees: the walks. -/
namespace Go.Proofs.YtaahjlhfmkjefaaDoor
open Go Go.Gv
set_option maxRecDepth 100000
set_option maxHeartbeats 16000000
set_option linter.unusedSimpArgs false
set_option linter.unusedVariables false
theorem partT_form (p : Pl) (x y : List Int) : ∃ i b e, partT p x y = .tuple ⟨[.int .i64 i, .bool b, .int .i64 e]⟩ := by
  unfold partT partE
  split
  · exact ⟨_, _, _, rfl⟩
  · split
    · exact ⟨_, _, _, rfl⟩
    · split
      · exact ⟨_, _, _, rfl⟩
      · exact ⟨_, _, _, rfl⟩
theorem treeL_len (p : Pl) (w : List Sp) : (treeL p w).length ≤ 32 := by
  unfold treeL
  split
  · rename_i h
    have ht : tellV p w = 0 := Classical.byContradiction fun e => e (by rw [treeE_bad e] at h; exact h)
    rw [treeT_len]
    exact (tell_ok ht).1.1.2.2.2.2.2.2
  · exact Nat.zero_le _
theorem f13 (p : Pl) (w : List Sp) (l m : List Int) (a a2 a3 a4 : Option Addr) (c c2 c3 c4 : Nat) (hcap : p.log.length ≤ c) (hcap2 : w.length ≤ c2) (hl : p.log.length ≤ 9223372036854775807) (hw : w.length ≤ 9223372036854775807) (hll : l.length ≤ 9223372036854775807) (hlm : m.length ≤ 9223372036854775807) (h : View) (hpw : PowV h) (O : Hp) (hr : Rd h O a (p.log.flatMap shV)) (hr2 : Rd h O a2 (w.flatMap spV)) (hr3 : Rd h O a3 (l.map zI)) (hr4 : Rd h O a4 (m.map zI)) :
    GSpec Tryd.prog 13 [.agg ⟨plV p a c⟩, .slice a2 w.length c2, .slice a3 l.length c3, .slice a4 m.length c4] h O (Ret O (.bool true)) := by
  have e16 := fun O => f16 h hpw O
  have e17 := fun O => f17 p a c hl h O
  show GSpec Tryd.prog 13 [.agg ⟨[.int .i64 p.no, .int .i64 p.cell, .int .i64 p.noise, .int .i64 p.slab, .int .i64 p.jump, .int .i64 p.faults, .slice a p.log.length c]⟩, _, _, _] h O _
  by_cases hf : fewP p ∧ p.log.length ≤ 40
  · rw [decide_eq_true hf] at e17
    have e41 := fun O hr hr2 => f41 p w a a2 c c2 hl hw hcap hcap2 h O hr hr2
    have e49 := fun O hr hr2 => f49 p w a a2 c c2 hl hw hf.1 hcap hcap2 h O hr hr2
    have e50 := fun O hr hr2 hr3 => f50 p l m a a3 a4 c c3 c4 hl hll hlm h O hr hr2 hr3
    have e51 := fun O hr hr2 hr3 => f51 p l m a a3 a4 c c3 c4 hl hll hlm h O hr hr2 hr3
    obtain ⟨pi, pb, pe, hT⟩ := partT_form p l m
    rw [hT] at e50 e51
    have htl := treeL_len p w
    unfold TreeR at e41 e49
    generalize treeL p w = L at *
    generalize treeE p w = E at *
    have e37 := fun b1 b2 c1 c2 O hr hr2 => f37 L L b1 b2 c1 c2 (by omega) (by omega) h O hr hr2
    rw [decide_eq_true rfl] at e37
    refine GSpec.enter (fn := Tryd.f13) Tryd.func13 rfl (by kernel_rfl) ?_
    repeat' (conv => whnf
             first
             | (((with_reducible refine CallSt.rd (f := 16) (X := .bool true) ?_ ?_); (· exact e16 _)))
             | (((with_reducible refine CallSt.rd (f := 17) (X := .bool true) ?_ ?_); (· exact e17 _)))
             | (((with_reducible refine CallSt.new (f := 41) (R := (fun v H => ∃ a c, v = .tuple ⟨[.slice a L.length c, .int .i64 E]⟩ ∧ RdH H a (L.map zI))) ?_ ?_); (· exact e41 _ (by (repeat (first | with_reducible assumption | (with_reducible apply Buf.rd; with_reducible assumption) | (with_reducible apply Rd.appL; with_reducible assumption) | (with_reducible apply Rd.appL; with_reducible apply Buf.rd; with_reducible assumption) | (with_reducible apply Rd.ofH; with_reducible assumption) | (with_reducible apply Rd.ofH1; with_reducible assumption) | with_reducible apply Rd.cons | with_reducible apply Rd.appR))) (by (repeat (first | with_reducible assumption | (with_reducible apply Buf.rd; with_reducible assumption) | (with_reducible apply Rd.appL; with_reducible assumption) | (with_reducible apply Rd.appL; with_reducible apply Buf.rd; with_reducible assumption) | (with_reducible apply Rd.ofH; with_reducible assumption) | (with_reducible apply Rd.ofH1; with_reducible assumption) | with_reducible apply Rd.cons | with_reducible apply Rd.appR)))); rintro _ H1 ⟨ma1, mc1, rfl, mr1⟩))
             | (((with_reducible refine CallSt.new (f := 49) (R := (fun v H => ∃ a c, v = .tuple ⟨[.slice a L.length c, .int .i64 E]⟩ ∧ RdH H a (L.map zI))) ?_ ?_); (· exact e49 _ (by (repeat (first | with_reducible assumption | (with_reducible apply Buf.rd; with_reducible assumption) | (with_reducible apply Rd.appL; with_reducible assumption) | (with_reducible apply Rd.appL; with_reducible apply Buf.rd; with_reducible assumption) | (with_reducible apply Rd.ofH; with_reducible assumption) | (with_reducible apply Rd.ofH1; with_reducible assumption) | with_reducible apply Rd.cons | with_reducible apply Rd.appR))) (by (repeat (first | with_reducible assumption | (with_reducible apply Buf.rd; with_reducible assumption) | (with_reducible apply Rd.appL; with_reducible assumption) | (with_reducible apply Rd.appL; with_reducible apply Buf.rd; with_reducible assumption) | (with_reducible apply Rd.ofH; with_reducible assumption) | (with_reducible apply Rd.ofH1; with_reducible assumption) | with_reducible apply Rd.cons | with_reducible apply Rd.appR)))); rintro _ H2 ⟨ma2, mc2, rfl, mr2⟩))
             | (((with_reducible refine CallSt.rd (f := 50) (X := .tuple ⟨[.int .i64 pi, .bool pb, .int .i64 pe]⟩) ?_ ?_); (· exact e50 _ (by (repeat (first | with_reducible assumption | (with_reducible apply Buf.rd; with_reducible assumption) | (with_reducible apply Rd.appL; with_reducible assumption) | (with_reducible apply Rd.appL; with_reducible apply Buf.rd; with_reducible assumption) | (with_reducible apply Rd.ofH; with_reducible assumption) | (with_reducible apply Rd.ofH1; with_reducible assumption) | with_reducible apply Rd.cons | with_reducible apply Rd.appR))) (by (repeat (first | with_reducible assumption | (with_reducible apply Buf.rd; with_reducible assumption) | (with_reducible apply Rd.appL; with_reducible assumption) | (with_reducible apply Rd.appL; with_reducible apply Buf.rd; with_reducible assumption) | (with_reducible apply Rd.ofH; with_reducible assumption) | (with_reducible apply Rd.ofH1; with_reducible assumption) | with_reducible apply Rd.cons | with_reducible apply Rd.appR))) (by (repeat (first | with_reducible assumption | (with_reducible apply Buf.rd; with_reducible assumption) | (with_reducible apply Rd.appL; with_reducible assumption) | (with_reducible apply Rd.appL; with_reducible apply Buf.rd; with_reducible assumption) | (with_reducible apply Rd.ofH; with_reducible assumption) | (with_reducible apply Rd.ofH1; with_reducible assumption) | with_reducible apply Rd.cons | with_reducible apply Rd.appR))))))
             | (((with_reducible refine CallSt.rd (f := 51) (X := .tuple ⟨[.int .i64 pi, .bool pb, .int .i64 pe]⟩) ?_ ?_); (· exact e51 _ (by (repeat (first | with_reducible assumption | (with_reducible apply Buf.rd; with_reducible assumption) | (with_reducible apply Rd.appL; with_reducible assumption) | (with_reducible apply Rd.appL; with_reducible apply Buf.rd; with_reducible assumption) | (with_reducible apply Rd.ofH; with_reducible assumption) | (with_reducible apply Rd.ofH1; with_reducible assumption) | with_reducible apply Rd.cons | with_reducible apply Rd.appR))) (by (repeat (first | with_reducible assumption | (with_reducible apply Buf.rd; with_reducible assumption) | (with_reducible apply Rd.appL; with_reducible assumption) | (with_reducible apply Rd.appL; with_reducible apply Buf.rd; with_reducible assumption) | (with_reducible apply Rd.ofH; with_reducible assumption) | (with_reducible apply Rd.ofH1; with_reducible assumption) | with_reducible apply Rd.cons | with_reducible apply Rd.appR))) (by (repeat (first | with_reducible assumption | (with_reducible apply Buf.rd; with_reducible assumption) | (with_reducible apply Rd.appL; with_reducible assumption) | (with_reducible apply Rd.appL; with_reducible apply Buf.rd; with_reducible assumption) | (with_reducible apply Rd.ofH; with_reducible assumption) | (with_reducible apply Rd.ofH1; with_reducible assumption) | with_reducible apply Rd.cons | with_reducible apply Rd.appR))))))
             | (((with_reducible refine CallSt.rd (f := 37) (X := .bool true) ?_ ?_); (· exact e37 ma1 ma2 mc1 mc2 _ (by (repeat (first | with_reducible assumption | (with_reducible apply Buf.rd; with_reducible assumption) | (with_reducible apply Rd.appL; with_reducible assumption) | (with_reducible apply Rd.appL; with_reducible apply Buf.rd; with_reducible assumption) | (with_reducible apply Rd.ofH; with_reducible assumption) | (with_reducible apply Rd.ofH1; with_reducible assumption) | with_reducible apply Rd.cons | with_reducible apply Rd.appR))) (by (repeat (first | with_reducible assumption | (with_reducible apply Buf.rd; with_reducible assumption) | (with_reducible apply Rd.appL; with_reducible assumption) | (with_reducible apply Rd.appL; with_reducible apply Buf.rd; with_reducible assumption) | (with_reducible apply Rd.ofH; with_reducible assumption) | (with_reducible apply Rd.ofH1; with_reducible assumption) | with_reducible apply Rd.cons | with_reducible apply Rd.appR))))))
             | ((refine OnBB.yes (b := pb == pb) (beq_self_eq_true pb) ?_))
             | (with_reducible refine NextSt.mk ?_)
             | (with_reducible refine OnBB.tt ?_)
             | (with_reducible refine OnBB.ff ?_)
             | ((with_reducible apply Cmp.yes); · first | omega | (with_reducible assumption) | (with_reducible rfl))
             | ((with_reducible apply LoadSt.boxAgg); · (repeat (first | exact List.Mem.head _ | with_reducible apply List.mem_append_right | with_reducible apply List.mem_cons_of_mem)))
             | ((with_reducible refine AllocSt.mk ?_); intro _b _hb _hbO))
    conv => whnf
    refine FinSt.ret (by (try dsimp only); (try simp only [List.cons_append, List.nil_append]); (repeat (first | with_reducible exact List.Sublist.refl _ | with_reducible exact List.nil_sublist _ | with_reducible apply List.Sublist.cons_cons | with_reducible apply sub_app | apply List.Sublist.cons_cons | apply sub_app | with_reducible apply List.Sublist.cons | with_reducible apply sub_skip))) ?_
    rfl
  · rw [decide_eq_false hf] at e17
    refine GSpec.enter (fn := Tryd.f13) Tryd.func13 rfl (by kernel_rfl) ?_
    repeat' (conv => whnf
             first
             | (((with_reducible refine CallSt.rd (f := 16) (X := .bool true) ?_ ?_); (· exact e16 _)))
             | (((with_reducible refine CallSt.rd (f := 17) (X := .bool false) ?_ ?_); (· exact e17 _)))
             | (with_reducible refine NextSt.mk ?_)
             | (with_reducible refine OnBB.tt ?_)
             | (with_reducible refine OnBB.ff ?_)
             | ((with_reducible apply LoadSt.boxAgg); · (repeat (first | exact List.Mem.head _ | with_reducible apply List.mem_append_right | with_reducible apply List.mem_cons_of_mem)))
             | ((with_reducible refine AllocSt.mk ?_); intro _b _hb _hbO))
    conv => whnf
    refine FinSt.ret (by (try dsimp only); (try simp only [List.cons_append, List.nil_append]); (repeat (first | with_reducible exact List.Sublist.refl _ | with_reducible exact List.nil_sublist _ | with_reducible apply List.Sublist.cons_cons | with_reducible apply sub_app | apply List.Sublist.cons_cons | apply sub_app | with_reducible apply List.Sublist.cons | with_reducible apply sub_skip))) ?_
    rfl
theorem f11 (p : Pl) (w : List Sp) (a a2 : Option Addr) (c c2 : Nat) (hcap : p.log.length ≤ c) (hcap2 : w.length ≤ c2) (hl : p.log.length ≤ 9223372036854775807) (hw : w.length ≤ 9223372036854775807) (h : View) (hpw : PowV h) (O : Hp) (hr : Rd h O a (p.log.flatMap shV)) (hr2 : Rd h O a2 (w.flatMap spV)) :
    GSpec Tryd.prog 11 [.agg ⟨plV p a c⟩, .slice a2 w.length c2] h O (Ret O (.bool true)) := by
  have e16 := fun O => f16 h hpw O
  have e41 := fun O hr hr2 => f41 p w a a2 c c2 hl hw hcap hcap2 h O hr hr2
  have e18 := fun O hr hr2 => f18 p w a a2 c c2 hl hw h O hr hr2
  show GSpec Tryd.prog 11 [.agg ⟨[.int .i64 p.no, .int .i64 p.cell, .int .i64 p.noise, .int .i64 p.slab, .int .i64 p.jump, .int .i64 p.faults, .slice a p.log.length c]⟩, _] h O _
  by_cases h8 : p.log.length ≤ 8
  · by_cases hE : treeE p w = 0
    · have ht : tellV p w = 0 := Classical.byContradiction fun e => e (by rw [treeE_bad e] at hE; exact hE)
      obtain ⟨hp, hwo⟩ := tell_ok ht
      have hall : ∀ j < p.log.length, (lvl p w (j + 1)).length ≤ 64 := fun j hj => Classical.byContradiction fun e => by
        rw [treeE_many ht hj (by omega)] at hE; cases hE
      have hrem : ¬ 64 < (remV p w).length ∧ (p.log.length = 0 → (remV p w).length = 1) := by
        by_cases h0 : p.log.length = 0
        · have e : (remV p w).length = 1 := by unfold remV; rw [h0]; rfl
          exact ⟨by omega, fun _ => e⟩
        · have := hall (p.log.length - 1) (by omega)
          rw [Nat.sub_add_cancel (by omega)] at this
          exact ⟨by unfold remV; omega, fun e => absurd e h0⟩
      have hC := casesE_ok ht hrem.1
      have hCR : CasesR p w = fun v H => ∃ x, v = .tuple ⟨[x, .int .i64 0]⟩ ∧ LLR (remV p w) x H := by unfold CasesR; rw [hC, casesL_ok hC]
      have hTL : treeL p w = treeT p w p.log.length := if_pos hE
      have hTR : TreeR p w = fun v H => ∃ a c, v = .tuple ⟨[.slice a (treeT p w p.log.length).length c, .int .i64 0]⟩ ∧ RdH H a ((treeT p w p.log.length).map zI) := by unfold TreeR; rw [hTL, hE]
      rw [hCR] at e18
      rw [hTR] at e41
      have hTn := treeT_len p w p.log.length
      have hT0 : ∀ i < p.log.length, 0 ≤ (treeT p w p.log.length).getD i 0 ∧ (treeT p w p.log.length).getD i 0 ≤ 64 := fun i hi => by
        rw [treeT_get hi]; have := hall i hi; omega
      have hT3 : ∀ i, 1 ≤ i → i < p.log.length → (treeT p w p.log.length).getD i 0 ≤ 3 * (treeT p w p.log.length).getD (i - 1) 0 := fun i h1 hi => by
        rw [treeT_get hi, treeT_get (show i - 1 < p.log.length by omega), Nat.sub_add_cancel h1]
        have := lvl_three p w i
        omega
      have hTs : ∀ i, 1 ≤ i → i < p.log.length → ¬ shiftI p (i - 1) → (treeT p w p.log.length).getD i 0 ≤ (treeT p w p.log.length).getD (i - 1) 0 := fun i h1 hi hs => by
        rw [treeT_get hi, treeT_get (show i - 1 < p.log.length by omega)]
        have := lvl_same (w := w) hs
        rw [show i - 1 + 2 = i + 1 by omega] at this
        omega
      have hTe : 0 < p.log.length → (treeT p w p.log.length).getD (p.log.length - 1) 0 = ((remV p w).length : Int) := fun h0 => by
        rw [treeT_get (by omega), Nat.sub_add_cancel h0]; rfl
      have hT1 : 0 < p.log.length → (treeT p w p.log.length).getD 0 0 ≤ 2 := fun h0 => by
        rw [treeT_get h0]
        have := lvl_two p w
        show ((lvl p w 1).length : Int) ≤ 2
        omega
      have e42 : ∀ i, 1 ≤ i → i < p.log.length → ∀ O, Rd h O a (p.log.flatMap shV) → GSpec Tryd.prog 42 [.agg ⟨plV p a c⟩, iN (i - 1)] h O (Ret O (.tuple ⟨[.bool (decide (shiftI p (i - 1))), .int .i64 0]⟩)) := fun i h1 hi O hr => by
        have := f42 p ((i - 1 : Nat) : Int) a c hl h O hr
        have e : shiftT p ((i - 1 : Nat) : Int) = .tuple ⟨[.bool (decide (shiftI p (i - 1))), .int .i64 0]⟩ := by
          unfold shiftT
          rw [if_pos hp, if_pos (by omega), Int.toNat_natCast]
        rw [e] at this
        exact this
      generalize treeT p w p.log.length = T at *
      generalize remV p w = L at *
      clear hTR hTL hCR hall hC hE
      refine GSpec.enter (fn := Tryd.f11) Tryd.func11 rfl (by kernel_rfl) ?_
      repeat' (conv => whnf
               first
               | (((with_reducible refine CallSt.rd (f := 16) (X := .bool true) ?_ ?_); (· exact e16 _)))
               | (((with_reducible refine CallSt.new (f := 41) (R := (fun v H => ∃ a c, v = .tuple ⟨[.slice a T.length c, .int .i64 0]⟩ ∧ RdH H a (T.map zI))) ?_ ?_); (· exact e41 _ (by (repeat (first | with_reducible assumption | (with_reducible apply Buf.rd; with_reducible assumption) | (with_reducible apply Rd.appL; with_reducible assumption) | (with_reducible apply Rd.appL; with_reducible apply Buf.rd; with_reducible assumption) | (with_reducible apply Rd.ofH; with_reducible assumption) | (with_reducible apply Rd.ofH1; with_reducible assumption) | with_reducible apply Rd.cons | with_reducible apply Rd.appR))) (by (repeat (first | with_reducible assumption | (with_reducible apply Buf.rd; with_reducible assumption) | (with_reducible apply Rd.appL; with_reducible assumption) | (with_reducible apply Rd.appL; with_reducible apply Buf.rd; with_reducible assumption) | (with_reducible apply Rd.ofH; with_reducible assumption) | (with_reducible apply Rd.ofH1; with_reducible assumption) | with_reducible apply Rd.cons | with_reducible apply Rd.appR)))); rintro _ H1 ⟨ma1, mc1, rfl, mr1⟩))
               | (((with_reducible refine CallSt.new (f := 18) (R := (fun v H => ∃ x, v = .tuple ⟨[x, .int .i64 0]⟩ ∧ LLR L x H)) ?_ ?_); (· exact e18 _ (by (repeat (first | with_reducible assumption | (with_reducible apply Buf.rd; with_reducible assumption) | (with_reducible apply Rd.appL; with_reducible assumption) | (with_reducible apply Rd.appL; with_reducible apply Buf.rd; with_reducible assumption) | (with_reducible apply Rd.ofH; with_reducible assumption) | (with_reducible apply Rd.ofH1; with_reducible assumption) | with_reducible apply Rd.cons | with_reducible apply Rd.appR))) (by (repeat (first | with_reducible assumption | (with_reducible apply Buf.rd; with_reducible assumption) | (with_reducible apply Rd.appL; with_reducible assumption) | (with_reducible apply Rd.appL; with_reducible apply Buf.rd; with_reducible assumption) | (with_reducible apply Rd.ofH; with_reducible assumption) | (with_reducible apply Rd.ofH1; with_reducible assumption) | with_reducible apply Rd.cons | with_reducible apply Rd.appR)))); rintro _ H2 ⟨_, rfl, la2, lc2, lvs2, rfl, lr2, lt2, ll2⟩))
               | (with_reducible refine NextSt.mk ?_)
               | (with_reducible refine OnBB.tt ?_)
               | (with_reducible refine OnBB.ff ?_)
               | ((with_reducible apply Cmp.no); · first | omega | (with_reducible assumption))
               | ((with_reducible apply LoadSt.box); · (repeat (first | exact List.Mem.head _ | with_reducible apply List.mem_append_right | with_reducible apply List.mem_cons_of_mem)))
               | ((with_reducible apply LoadSt.boxAgg); · (repeat (first | exact List.Mem.head _ | with_reducible apply List.mem_append_right | with_reducible apply List.mem_cons_of_mem)))
               | ((with_reducible refine AllocSt.mk ?_); intro _b _hb _hbO))
      refine LoopSt.fix [4, 9, 10, 11, 45, 46, 47, 48, 49, 50, 51, 52, 53, 54, 55, 56, 57, 58, 59, 60, 61, 62, 63, 64, 65, 66, 67, 68, 69, 70, 71, 72, 73, 74, 75, 76, 77, 78, 79, 80, 81, 82, 83, 84, 85, 86, 87, 88, 89, 90, 91, 92, 93, 94, 95] (fun (i : Nat) => [(9, iN i)]) (fun _ => _) (fun i => 1 ≤ i) (fun i => p.log.length - i) (1) _ (Wk.refl _ _) (rfl) ?_ ?_ ?_
      · repeat' (first | exact True.intro | refine And.intro ?_ ?_ | rfl | exact congrArg (Value.int _) (by omega) | exact congrArg (fun n => Value.slice _ n _) (by (try dsimp only); omega))
      · exact Nat.le_refl 1
      · intro i d hi
        by_cases hil : i < p.log.length
        · have e42i := e42 i hi hil
          have g0 := hT0 i hil
          have g1 := hT0 (i - 1) (by omega)
          have g3 := hT3 i hi hil
          have gs := hTs i hi hil
          by_cases hs : shiftI p (i - 1)
          · rw [decide_eq_true hs] at e42i
            repeat' (conv => whnf
                     first
                     | (((with_reducible refine CallSt.rd (f := 42) (X := .tuple ⟨[.bool true, .int .i64 0]⟩) ?_ ?_); (· exact e42i _ (by (repeat (first | with_reducible assumption | (with_reducible apply Buf.rd; with_reducible assumption) | (with_reducible apply Rd.appL; with_reducible assumption) | (with_reducible apply Rd.appL; with_reducible apply Buf.rd; with_reducible assumption) | (with_reducible apply Rd.ofH; with_reducible assumption) | (with_reducible apply Rd.ofH1; with_reducible assumption) | with_reducible apply Rd.cons | with_reducible apply Rd.appR))))))
                     | ((with_reducible refine DrawSt.walk [0, 1, 2, 3, 4, 5, 6, 7, 8, 9, 10, 11, 12, 13, 14, 15, 16, 17, 18, 19, 20, 21, 22, 23, 24, 25, 26, 27, 28, 29, 30, 31, 32, 33, 34, 35, 36, 37] mixed ?_ ?_); · decide +kernel)
                     | ((with_reducible apply LoadSt.rdZ); (· (repeat (first | with_reducible assumption | (with_reducible apply Rd.any; with_reducible assumption) | (with_reducible apply Buf.rd; with_reducible assumption) | (with_reducible apply Rd.appL; with_reducible assumption) | (with_reducible apply Rd.appL; with_reducible apply Buf.rd; with_reducible assumption) | (with_reducible apply Rd.ofH; with_reducible assumption) | (with_reducible apply Rd.ofH1; with_reducible assumption) | with_reducible apply Rd.cons | with_reducible apply Rd.appR))); · (first | omega | (simp only [List.length_map, List.length_append, List.length_cons, List.length_nil, List.length_take, List.length_drop, List.length_replicate, List.length_set] at *; omega)))
                     | (with_reducible refine NextSt.mk ?_)
                     | (with_reducible refine OnBB.tt ?_)
                     | (with_reducible refine OnBB.ff ?_)
                     | ((with_reducible apply NW.addN); (· first | with_reducible rfl | exact natL _); (· first | with_reducible rfl | exact natL _); (· omega))
                     | ((with_reducible apply NW.subN); (· first | with_reducible rfl | exact natL _); (· first | with_reducible rfl | exact natL _); (· omega))
                     | ((with_reducible apply NW.i64); · omega)
                     | ((with_reducible apply Cmp.yes); · first | omega | (with_reducible assumption) | (with_reducible rfl))
                     | ((with_reducible apply Cmp.no); · first | omega | (with_reducible assumption))
                     | ((with_reducible apply LoadSt.boxAgg); · (repeat (first | exact List.Mem.head _ | with_reducible apply List.mem_append_right | with_reducible apply List.mem_cons_of_mem)))
                     | ((with_reducible apply IdxSl.rd1); (· with_reducible assumption); (· rfl); (· first | with_reducible rfl | exact natL _); (· (first | omega | (simp only [List.length_map, List.length_append, List.length_cons, List.length_nil, List.length_take, List.length_drop, List.length_replicate, List.length_set] at *; omega))); · (first | omega | (simp only [List.length_map, List.length_append, List.length_cons, List.length_nil, List.length_take, List.length_drop, List.length_replicate, List.length_set] at *; omega))))
            refine RoundFix.mk (i + 1) ?_ ?_ _ rfl (Wk.drop (by (try dsimp only); (try simp only [List.cons_append, List.nil_append]); (repeat (first | with_reducible exact List.Sublist.refl _ | with_reducible exact List.nil_sublist _ | with_reducible apply List.Sublist.cons_cons | with_reducible apply sub_app | apply List.Sublist.cons_cons | apply sub_app | with_reducible apply List.Sublist.cons | with_reducible apply sub_skip)))) ?_
            · omega
            · repeat' (first | exact True.intro | refine And.intro ?_ ?_ | rfl | exact congrArg (Value.int _) (by omega) | exact congrArg (fun n => Value.slice _ n _) (by (try dsimp only); omega))
            · omega
          · rw [decide_eq_false hs] at e42i
            have gs := gs hs
            repeat' (conv => whnf
                     first
                     | (((with_reducible refine CallSt.rd (f := 42) (X := .tuple ⟨[.bool false, .int .i64 0]⟩) ?_ ?_); (· exact e42i _ (by (repeat (first | with_reducible assumption | (with_reducible apply Buf.rd; with_reducible assumption) | (with_reducible apply Rd.appL; with_reducible assumption) | (with_reducible apply Rd.appL; with_reducible apply Buf.rd; with_reducible assumption) | (with_reducible apply Rd.ofH; with_reducible assumption) | (with_reducible apply Rd.ofH1; with_reducible assumption) | with_reducible apply Rd.cons | with_reducible apply Rd.appR))))))
                     | ((with_reducible refine DrawSt.walk [0, 1, 2, 3, 4, 5, 6, 7, 8, 9, 10, 11, 12, 13, 14, 15, 16, 17, 18, 19, 20, 21, 22, 23, 24, 25, 26, 27, 28, 29, 30, 31, 32, 33, 34, 35, 36, 37] mixed ?_ ?_); · decide +kernel)
                     | ((with_reducible apply LoadSt.rdZ); (· (repeat (first | with_reducible assumption | (with_reducible apply Rd.any; with_reducible assumption) | (with_reducible apply Buf.rd; with_reducible assumption) | (with_reducible apply Rd.appL; with_reducible assumption) | (with_reducible apply Rd.appL; with_reducible apply Buf.rd; with_reducible assumption) | (with_reducible apply Rd.ofH; with_reducible assumption) | (with_reducible apply Rd.ofH1; with_reducible assumption) | with_reducible apply Rd.cons | with_reducible apply Rd.appR))); · (first | omega | (simp only [List.length_map, List.length_append, List.length_cons, List.length_nil, List.length_take, List.length_drop, List.length_replicate, List.length_set] at *; omega)))
                     | (with_reducible refine NextSt.mk ?_)
                     | (with_reducible refine OnBB.tt ?_)
                     | (with_reducible refine OnBB.ff ?_)
                     | ((with_reducible apply NW.addN); (· first | with_reducible rfl | exact natL _); (· first | with_reducible rfl | exact natL _); (· omega))
                     | ((with_reducible apply NW.subN); (· first | with_reducible rfl | exact natL _); (· first | with_reducible rfl | exact natL _); (· omega))
                     | ((with_reducible apply NW.i64); · omega)
                     | ((with_reducible apply Cmp.yes); · first | omega | (with_reducible assumption) | (with_reducible rfl))
                     | ((with_reducible apply Cmp.no); · first | omega | (with_reducible assumption))
                     | ((with_reducible apply LoadSt.boxAgg); · (repeat (first | exact List.Mem.head _ | with_reducible apply List.mem_append_right | with_reducible apply List.mem_cons_of_mem)))
                     | ((with_reducible apply IdxSl.rd1); (· with_reducible assumption); (· rfl); (· first | with_reducible rfl | exact natL _); (· (first | omega | (simp only [List.length_map, List.length_append, List.length_cons, List.length_nil, List.length_take, List.length_drop, List.length_replicate, List.length_set] at *; omega))); · (first | omega | (simp only [List.length_map, List.length_append, List.length_cons, List.length_nil, List.length_take, List.length_drop, List.length_replicate, List.length_set] at *; omega))))
            refine RoundFix.mk (i + 1) ?_ ?_ _ rfl (Wk.drop (by (try dsimp only); (try simp only [List.cons_append, List.nil_append]); (repeat (first | with_reducible exact List.Sublist.refl _ | with_reducible exact List.nil_sublist _ | with_reducible apply List.Sublist.cons_cons | with_reducible apply sub_app | apply List.Sublist.cons_cons | apply sub_app | with_reducible apply List.Sublist.cons | with_reducible apply sub_skip)))) ?_
            · omega
            · repeat' (first | exact True.intro | refine And.intro ?_ ?_ | rfl | exact congrArg (Value.int _) (by omega) | exact congrArg (fun n => Value.slice _ n _) (by (try dsimp only); omega))
            · omega
        · by_cases h0 : p.log.length = 0
          · have := hrem.2 h0
            repeat' (conv => whnf
                     first
                     | (with_reducible refine NextSt.mk ?_)
                     | (with_reducible refine OnBB.tt ?_)
                     | (with_reducible refine OnBB.ff ?_)
                     | ((with_reducible apply Cmp.yes); · first | omega | (with_reducible assumption) | (with_reducible rfl))
                     | ((with_reducible apply Cmp.no); · first | omega | (with_reducible assumption)))
            conv => whnf
            refine FinSt.ret (by (try dsimp only); (try simp only [List.cons_append, List.nil_append]); (repeat (first | with_reducible exact List.Sublist.refl _ | with_reducible exact List.nil_sublist _ | with_reducible apply List.Sublist.cons_cons | with_reducible apply sub_app | apply List.Sublist.cons_cons | apply sub_app | with_reducible apply List.Sublist.cons | with_reducible apply sub_skip))) ?_
            rfl
          · have g1 := hTe (by omega)
            have g2 := hT1 (by omega)
            have hn1 : T.length - 1 = p.log.length - 1 := by omega
            rw [← hn1] at g1
            repeat' (conv => whnf
                     first
                     | ((with_reducible apply LoadSt.rdZ); (· (repeat (first | with_reducible assumption | (with_reducible apply Rd.any; with_reducible assumption) | (with_reducible apply Buf.rd; with_reducible assumption) | (with_reducible apply Rd.appL; with_reducible assumption) | (with_reducible apply Rd.appL; with_reducible apply Buf.rd; with_reducible assumption) | (with_reducible apply Rd.ofH; with_reducible assumption) | (with_reducible apply Rd.ofH1; with_reducible assumption) | with_reducible apply Rd.cons | with_reducible apply Rd.appR))); · (first | omega | (simp only [List.length_map, List.length_append, List.length_cons, List.length_nil, List.length_take, List.length_drop, List.length_replicate, List.length_set] at *; omega)))
                     | (with_reducible refine NextSt.mk ?_)
                     | (with_reducible refine OnBB.tt ?_)
                     | (with_reducible refine OnBB.ff ?_)
                     | ((with_reducible apply NW.subN); (· first | with_reducible rfl | exact natL _); (· first | with_reducible rfl | exact natL _); (· omega))
                     | ((with_reducible apply Cmp.yes); · first | omega | (with_reducible assumption) | (with_reducible rfl))
                     | ((with_reducible apply Cmp.no); · first | omega | (with_reducible assumption))
                     | ((with_reducible apply IdxSl.rd1); (· with_reducible assumption); (· rfl); (· first | with_reducible rfl | exact natL _); (· (first | omega | (simp only [List.length_map, List.length_append, List.length_cons, List.length_nil, List.length_take, List.length_drop, List.length_replicate, List.length_set] at *; omega))); · (first | omega | (simp only [List.length_map, List.length_append, List.length_cons, List.length_nil, List.length_take, List.length_drop, List.length_replicate, List.length_set] at *; omega))))
            conv => whnf
            refine FinSt.ret (by (try dsimp only); (try simp only [List.cons_append, List.nil_append]); (repeat (first | with_reducible exact List.Sublist.refl _ | with_reducible exact List.nil_sublist _ | with_reducible apply List.Sublist.cons_cons | with_reducible apply sub_app | apply List.Sublist.cons_cons | apply sub_app | with_reducible apply List.Sublist.cons | with_reducible apply sub_skip))) ?_
            rfl
    · have hTL : treeL p w = [] := if_neg hE
      have hTR : TreeR p w = fun v H => ∃ a c, v = .tuple ⟨[.slice a 0 c, .int .i64 (treeE p w)]⟩ ∧ RdH H a (([] : List Int).map zI) := by unfold TreeR; rw [hTL]; rfl
      rw [hTR] at e41
      unfold CasesR at e18
      refine GSpec.enter (fn := Tryd.f11) Tryd.func11 rfl (by kernel_rfl) ?_
      repeat' (conv => whnf
               first
               | (((with_reducible refine CallSt.rd (f := 16) (X := .bool true) ?_ ?_); (· exact e16 _)))
               | (((with_reducible refine CallSt.new (f := 41) (R := (fun v H => ∃ a c, v = .tuple ⟨[.slice a 0 c, .int .i64 (treeE p w)]⟩ ∧ RdH H a (([] : List Int).map zI))) ?_ ?_); (· exact e41 _ (by (repeat (first | with_reducible assumption | (with_reducible apply Buf.rd; with_reducible assumption) | (with_reducible apply Rd.appL; with_reducible assumption) | (with_reducible apply Rd.appL; with_reducible apply Buf.rd; with_reducible assumption) | (with_reducible apply Rd.ofH; with_reducible assumption) | (with_reducible apply Rd.ofH1; with_reducible assumption) | with_reducible apply Rd.cons | with_reducible apply Rd.appR))) (by (repeat (first | with_reducible assumption | (with_reducible apply Buf.rd; with_reducible assumption) | (with_reducible apply Rd.appL; with_reducible assumption) | (with_reducible apply Rd.appL; with_reducible apply Buf.rd; with_reducible assumption) | (with_reducible apply Rd.ofH; with_reducible assumption) | (with_reducible apply Rd.ofH1; with_reducible assumption) | with_reducible apply Rd.cons | with_reducible apply Rd.appR)))); rintro _ H1 ⟨ma1, mc1, rfl, mr1⟩))
               | (((with_reducible refine CallSt.new (f := 18) (R := (fun v H => ∃ x, v = .tuple ⟨[x, .int .i64 (casesE p w)]⟩ ∧ LLR (casesL p w) x H)) ?_ ?_); (· exact e18 _ (by (repeat (first | with_reducible assumption | (with_reducible apply Buf.rd; with_reducible assumption) | (with_reducible apply Rd.appL; with_reducible assumption) | (with_reducible apply Rd.appL; with_reducible apply Buf.rd; with_reducible assumption) | (with_reducible apply Rd.ofH; with_reducible assumption) | (with_reducible apply Rd.ofH1; with_reducible assumption) | with_reducible apply Rd.cons | with_reducible apply Rd.appR))) (by (repeat (first | with_reducible assumption | (with_reducible apply Buf.rd; with_reducible assumption) | (with_reducible apply Rd.appL; with_reducible assumption) | (with_reducible apply Rd.appL; with_reducible apply Buf.rd; with_reducible assumption) | (with_reducible apply Rd.ofH; with_reducible assumption) | (with_reducible apply Rd.ofH1; with_reducible assumption) | with_reducible apply Rd.cons | with_reducible apply Rd.appR)))); rintro _ H2 ⟨_, rfl, la2, lc2, lvs2, rfl, lr2, lt2, ll2⟩))
               | (with_reducible refine NextSt.mk ?_)
               | (with_reducible refine OnBB.tt ?_)
               | (with_reducible refine OnBB.ff ?_)
               | ((with_reducible apply Cmp.yes); · first | omega | (with_reducible assumption) | (with_reducible rfl))
               | ((with_reducible apply Cmp.no); · first | omega | (with_reducible assumption))
               | ((with_reducible apply LoadSt.box); · (repeat (first | exact List.Mem.head _ | with_reducible apply List.mem_append_right | with_reducible apply List.mem_cons_of_mem)))
               | ((with_reducible apply LoadSt.boxAgg); · (repeat (first | exact List.Mem.head _ | with_reducible apply List.mem_append_right | with_reducible apply List.mem_cons_of_mem)))
               | ((with_reducible refine AllocSt.mk ?_); intro _b _hb _hbO))
      conv => whnf
      refine FinSt.ret (by (try dsimp only); (try simp only [List.cons_append, List.nil_append]); (repeat (first | with_reducible exact List.Sublist.refl _ | with_reducible exact List.nil_sublist _ | with_reducible apply List.Sublist.cons_cons | with_reducible apply sub_app | apply List.Sublist.cons_cons | apply sub_app | with_reducible apply List.Sublist.cons | with_reducible apply sub_skip))) ?_
      rfl
  · refine GSpec.enter (fn := Tryd.f11) Tryd.func11 rfl (by kernel_rfl) ?_
    repeat' (conv => whnf
             first
             | (((with_reducible refine CallSt.rd (f := 16) (X := .bool true) ?_ ?_); (· exact e16 _)))
             | (with_reducible refine NextSt.mk ?_)
             | (with_reducible refine OnBB.tt ?_)
             | (with_reducible refine OnBB.ff ?_)
             | ((with_reducible apply Cmp.yes); · first | omega | (with_reducible assumption) | (with_reducible rfl))
             | ((with_reducible apply LoadSt.box); · (repeat (first | exact List.Mem.head _ | with_reducible apply List.mem_append_right | with_reducible apply List.mem_cons_of_mem)))
             | ((with_reducible refine AllocSt.mk ?_); intro _b _hb _hbO))
    conv => whnf
    refine FinSt.ret (by (try dsimp only); (try simp only [List.cons_append, List.nil_append]); (repeat (first | with_reducible exact List.Sublist.refl _ | with_reducible exact List.nil_sublist _ | with_reducible apply List.Sublist.cons_cons | with_reducible apply sub_app | apply List.Sublist.cons_cons | apply sub_app | with_reducible apply List.Sublist.cons | with_reducible apply sub_skip))) ?_
    rfl
end Go.Proofs.YtaahjlhfmkjefaaDoor
