/- Equal books. -/
import Derived.Test.YtlbmlimaobkhpaaHc
import Derived.Test.YtlbmlimaobkhpaaOy
set_option linter.unusedVariables false
set_option linter.unusedSimpArgs false
set_option linter.unusedSectionVars false
/- The laws' helpers: equal books, of the program and of the reference. -/
namespace Go.Gv
theorem Loc.into {O H H2 : Hp} {f g : Hp → Hp} (l : Loc O H f) (m : Loc H H2 g) : Loc O H2 (fun X => f (g X)) := by
  obtain ⟨A, B, rfl, hf⟩ := l.parts
  obtain ⟨C, D, rfl, hg⟩ := m.parts
  exact ⟨A ++ C, D ++ B, by simp, fun X => by rw [hf, hg]; simp⟩
end Go.Gv
namespace Go.Proofs.Ytlbmlimaobkhpaa
open Go Go.Gv
set_option maxRecDepth 100000
set_option maxHeartbeats 8000000
set_option linter.unusedSimpArgs false
set_option linter.unusedVariables false
theorem f67z (r1 r2 : Dr) (b1 b2 : Br) (S1 S2 : DB) (O : Hp) {φ ψ : Hp → Hp} (l1 : Gv.Loc O (bH r1 S1.1 b1 S1.2) φ) (l2 : Gv.Loc O (eH r2 S2.1 b2 S2.2) ψ) (hw : wfL S1.2.logs) (hL : S2.2.logs = S1.2.logs) (h1 : 1 ≤ S1.2.logs.length) (hk1 : bOk r1 S1.1 b1 S1.2) (hk2 : bOk r2 S2.1 b2 S2.2) (h : View) :
    GSpec Try.prog 67 [pP b1.p, pP b2.p, .int .i64 0] h O (Ret O (.bool true)) := by
  have hw2 : wfL S2.2.logs := by rw [hL]; exact hw
  have w1 := hw.flat
  have m1 := hw.len
  have hx64 := hw.log 0 (by omega)
  have l2k := l2.into (Gv.Loc.skip (G := eHp r2 S2.1) Gv.Loc.last)
  have hen : ∀ e ∈ S1.2.logs.getD 0 [], enW e := fun e he => (hw.mem (by omega) he).w
  have e112 := fun (A3 B3 A4 B4 : Buf) O hs ht => f112 ⟨A3.a, A3.cap, S1.2.logs.map fun q => (q.length : Int), B3.a, B3.cap, S1.2.logs.map sumL⟩ ⟨A4.a, A4.cap, S1.2.logs.map fun q => (q.length : Int), B4.a, B4.cap, S1.2.logs.map sumL⟩ h O hs ht
  have edt : decide (S1.2.logs.map (fun q => (q.length : Int)) = S1.2.logs.map (fun q => (q.length : Int)) ∧ S1.2.logs.map sumL = S1.2.logs.map sumL) = true := decide_eq_true ⟨rfl, rfl⟩
  simp only [edt] at e112
  simp only [tyV, List.length_map] at e112
  have e126 := f126 r2.p b2 S2.2 hw2 hk2.k h
  have e127 := f127 r2.p b2 S2.2 hw2 hk2.k h
  have e129 := f129 r2.p b2 S2.2 0 (by rw [hL]; omega) hw2 hk2.k h
  have hb2 : b2.ls.length = S1.2.logs.length := by rw [← hL, ← hk2.logs, logs_len]
  have e128 := f128 b2 r2.p S2.2.at_ S2.2.falls h
  rw [hb2] at e128
  rw [hL] at e126 e127 e129
  refine GSpec.enter (fn := Try.f67) Try.func67 rfl (by kernel_rfl) ?_
  repeat' (conv => whnf
           first
           | ((apply CallSt.new (R := TyR S1.2.logs); (· (apply GSpec.locNew (H := bH r1 S1.1 b1 S1.2)); (· exact l1); (· exact f59 r1 b1 S1 hw hk1 _)); rintro _ _ ⟨A3, B3, rfl, rfl, hA3, hB3⟩))
           | ((apply CallG.new (R := TyR S1.2.logs); (· (apply GSpec.locNew (H := kE r2.p b2 S2.2)); (· repeat (first | exact l2k | with_reducible apply Gv.Loc.tl | with_reducible apply Gv.Loc.skip)); (· exact e126)); rintro _ _ ⟨A4, B4, rfl, rfl, hA4, hB4⟩))
           | (((with_reducible refine CallG.rd (f := 112) (X := .bool true) ?_ ?_); (· exact e112 A3 B3 A4 B4 _ ⟨Rd.appR (Rd.cons (Rd.appL (Rd.appL (Buf.rd hA3)))), Rd.appR (Rd.cons (Rd.appL (Rd.appR (Buf.rd hB3)))), by simp only [List.length_map]; omega, by simp only [List.length_map]; omega⟩ ⟨Rd.appL (Rd.appL (Buf.rd hA4)), Rd.appL (Rd.appR (Buf.rd hB4)), by simp only [List.length_map]; omega, by simp only [List.length_map]; omega⟩)))
           | ((apply CallG.new (R := RowR S1.2.logs.flatten); (· (apply GSpec.locNew (H := bH r1 S1.1 b1 S1.2)); (· repeat (first | exact l1 | with_reducible apply Gv.Loc.tl | with_reducible apply Gv.Loc.skip)); (· exact f57 r1 b1 S1 hw hk1 _)); rintro _ _ ⟨A1, rfl, rfl, hA1⟩))
           | ((apply CallG.new (R := RowR S1.2.logs.flatten); (· (apply GSpec.locNew (H := kE r2.p b2 S2.2)); (· repeat (first | exact l2k | with_reducible apply Gv.Loc.tl | with_reducible apply Gv.Loc.skip)); (· exact e127)); rintro _ _ ⟨A2, rfl, rfl, hA2⟩))
           | (((with_reducible refine CallG.rd (f := 60) (X := .bool true) ?_ ?_); (· rw [← decide_eq_true (rfl : S1.2.logs.flatten = S1.2.logs.flatten)]; exact f60 _ _ _ _ _ _ (by omega) (by omega) w1.1 w1.1 _ _ (Rd.appR (Rd.appL (Buf.rd hA1))) (Rd.appL (Buf.rd hA2)))))
           | (((with_reducible apply CallG.rd (f := 113)); (· (apply GSpec.locRet (H := bH r1 S1.1 b1 S1.2)); (· repeat (first | exact l1 | with_reducible apply Gv.Loc.tl | with_reducible apply Gv.Loc.skip)); (· exact f113 r1 S1.1 b1 S1.2 hk1 _))))
           | (((with_reducible apply CallG.rd (f := 128)); (· (apply GSpec.locRet (H := kE r2.p b2 S2.2)); (· repeat (first | exact l2k | with_reducible apply Gv.Loc.tl | with_reducible apply Gv.Loc.skip)); (· exact e128))))
           | ((with_reducible refine DrawSt.walk [0, 1, 2, 3, 4, 5, 6, 8, 7, 9, 10, 11, 12, 13, 14, 16, 15, 17, 18, 19] mixed ?_ ?_); · decide +kernel)
           | (with_reducible refine NextSt.mk ?_)
           | (with_reducible refine OnBB.tt ?_)
           | (with_reducible refine OnBB.ff ?_)
           | ((with_reducible apply Cmp.no); · first | omega | (with_reducible assumption))
           | ((with_reducible apply LoadSt.boxAgg); · (repeat (first | exact List.Mem.head _ | with_reducible apply List.mem_append_right | with_reducible apply List.mem_cons_of_mem)))
           | ((with_reducible refine AllocSt.mk ?_); intro _b _hb _hbO)
           | ((with_reducible apply StoreSt.box); (· (repeat (first | exact Upd.hd | apply Upd.tl | apply Upd.app))); (· rfl); (· rfl); (· rfl)))
  conv => whnf
  apply CallSt.new (R := RowE (S1.2.logs.getD 0 []))
  · apply GSpec.locNew (H := bH r1 S1.1 b1 S1.2)
    · repeat (first | exact l1 | with_reducible apply Gv.Loc.tl | with_reducible apply Gv.Loc.skip)
    · exact GSpec.locNew (Gv.Loc.skip Gv.Loc.last) (f62 r1.p b1 S1.2 0 (by omega) hw hk1.k _)
  rintro _ _ ⟨X, rfl, rfl, hX⟩
  repeat' (conv => whnf
           first
           | (with_reducible refine NextSt.mk ?_))
  conv => whnf
  apply CallSt.new (R := RowE (S1.2.logs.getD 0 []))
  · apply GSpec.locNew (H := kE r2.p b2 S2.2)
    · repeat (first | exact l2k | with_reducible apply Gv.Loc.tl | with_reducible apply Gv.Loc.skip)
    · exact e129
  rintro _ _ ⟨Y, rfl, rfl, hY⟩
  repeat' (conv => whnf
           first
           | (with_reducible refine NextSt.mk ?_))
  conv => whnf
  refine CallSt.rd (f := 60) (X := .bool true) ?_ ?_
  · rw [← decide_eq_true (rfl : S1.2.logs.getD 0 [] = S1.2.logs.getD 0 [])]
    exact f60 _ _ _ _ _ _ (by omega) (by omega) hen hen _ _ (Rd.appR (Rd.appL (Buf.rd hX))) (Rd.appL (Buf.rd hY))
  repeat' (conv => whnf
           first
           | (((with_reducible apply Cmp.no); · exact fun h => h rfl))
           | (with_reducible refine NextSt.mk ?_)
           | (with_reducible refine OnBB.tt ?_)
           | (with_reducible refine OnBB.ff ?_))
  conv => whnf
  refine LoopSt.fix [12, 56, 57, 58, 59, 60, 61, 62, 63, 64, 65, 66, 67, 68, 69, 70, 71, 72, 73, 74, 75, 76, 77, 78, 79, 80, 81, 82, 83, 84, 85, 86, 87, 88] (fun (i : Nat) => [(12, iN i)]) (fun _ => _) (fun i => i ≤ S1.2.logs.length) (fun i => S1.2.logs.length - i) (0) _ (Wk.refl _ _) (rfl) ?_ ?_ ?_
  · repeat' (first | exact True.intro | refine And.intro ?_ ?_ | rfl | exact congrArg (Value.int _) (by omega) | exact congrArg (fun n => Value.slice _ n _) (by (try dsimp only); omega))
  · exact Nat.zero_le _
  · intro i d3 hi
    by_cases hil : i < S1.2.logs.length
    · repeat' (conv => whnf
               first
               | (((with_reducible apply DivSt.rem); · decide))
               | (with_reducible refine NextSt.mk ?_)
               | (with_reducible refine OnBB.tt ?_)
               | (with_reducible refine OnBB.ff ?_)
               | ((with_reducible apply NW.addN); (· first | with_reducible rfl | exact natL _); (· first | with_reducible rfl | exact natL _); (· omega))
               | ((with_reducible apply Cmp.yes); · first | omega | (with_reducible assumption) | (with_reducible rfl))
               | ((with_reducible apply Cmp.no); · first | omega | (with_reducible assumption))
               | ((with_reducible apply LoadSt.box); · (repeat (first | exact List.Mem.head _ | with_reducible apply List.mem_append_right | with_reducible apply List.mem_cons_of_mem))))
      refine RoundFix.mk (i + 1) ?_ ?_ _ rfl (Wk.drop (by (try dsimp only); (try simp only [List.cons_append, List.nil_append]); (repeat (first | with_reducible exact List.Sublist.refl _ | with_reducible exact List.nil_sublist _ | with_reducible apply List.Sublist.cons_cons | with_reducible apply sub_app | apply List.Sublist.cons_cons | apply sub_app | with_reducible apply List.Sublist.cons | with_reducible apply sub_skip)))) ?_
      · omega
      · repeat' (first | exact True.intro | refine And.intro ?_ ?_ | rfl | exact congrArg (Value.int _) (by omega) | exact congrArg (fun n => Value.slice _ n _) (by (try dsimp only); omega))
      · omega
    · repeat' (conv => whnf
               first
               | (((with_reducible apply DivSt.rem); · decide))
               | (with_reducible refine NextSt.mk ?_)
               | (with_reducible refine OnBB.ff ?_)
               | ((with_reducible apply Cmp.no); · first | omega | (with_reducible assumption))
               | ((with_reducible apply LoadSt.box); · (repeat (first | exact List.Mem.head _ | with_reducible apply List.mem_append_right | with_reducible apply List.mem_cons_of_mem)))
               | ((with_reducible apply LoadSt.boxAgg); · (repeat (first | exact List.Mem.head _ | with_reducible apply List.mem_append_right | with_reducible apply List.mem_cons_of_mem))))
      conv => whnf
      apply CallSt.new (R := fun v H => ∃ C : Buf, v = .tuple ⟨[.slice C.a 0 C.cap, .int .i64 0]⟩ ∧ H = C.hp 70 [] ∧ C.ok 3 [] 0)
      · apply GSpec.locGNew' (H := bH r1 S1.1 b1 S1.2) (G := A3.hp 3 ((S1.2.logs.map fun q => (q.length : Int)).map zV) ++ B3.hp 108 ((S1.2.logs.map sumL).map uN))
        · repeat (first | exact l1 | with_reducible apply Gv.Loc.tl | with_reducible apply Gv.Loc.skip)
        · repeat (first | with_reducible exact Gv.Loc.hd | with_reducible apply Gv.Loc.tl | with_reducible apply Gv.Loc.skip)
        · exact f58L r1 b1 S1 A3 B3 hw hk1 _ hA3 hB3
      rintro _ _ ⟨W, rfl, rfl, hW⟩
      repeat' (conv => whnf
               first
               | (with_reducible refine NextSt.mk ?_)
               | ((with_reducible apply LoadSt.boxAgg); · (repeat (first | exact List.Mem.head _ | with_reducible apply List.mem_append_right | with_reducible apply List.mem_cons_of_mem))))
      conv => whnf
      have e130 := f130 r2.p b2 S2.2 ⟨A3.a, A3.cap, S1.2.logs.map fun q => (q.length : Int), B3.a, B3.cap, S1.2.logs.map sumL⟩ (A3.hp 3 ((S1.2.logs.map fun q => (q.length : Int)).map zV) ++ B3.hp 108 ((S1.2.logs.map sumL).map uN)) hw2 hk2.k (by simp only [List.length_map]; rw [hL]) (by simp only [List.length_map]; rw [hL]) (fun n hn => by obtain ⟨q, _, rfl⟩ := List.mem_map.1 hn; omega) h ⟨Rd.appR (Rd.appL (Buf.rd hA3)), Rd.appR (Rd.appR (Buf.rd hB3)), by simp only [List.length_map]; omega, by simp only [List.length_map]; omega⟩
      simp only [tyV, List.length_map, hL, want_own S1.2.logs _ (Nat.le_refl _)] at e130
      apply CallSt.new (R := RowE [])
      · apply GSpec.locGNew' (H := kE r2.p b2 S2.2) (G := A3.hp 3 ((S1.2.logs.map fun q => (q.length : Int)).map zV) ++ B3.hp 108 ((S1.2.logs.map sumL).map uN))
        · repeat (first | exact l2k | with_reducible apply Gv.Loc.tl | with_reducible apply Gv.Loc.skip)
        · repeat (first | with_reducible exact Gv.Loc.hd | with_reducible apply Gv.Loc.tl | with_reducible apply Gv.Loc.skip)
        · exact e130
      rintro _ _ ⟨V, rfl, rfl, hV⟩
      repeat' (conv => whnf
               first
               | (with_reducible refine NextSt.mk ?_))
      conv => whnf
      refine CallSt.rd (f := 60) (X := .bool true) ?_ ?_
      · rw [← decide_eq_true (rfl : ([] : List En) = [])]
        exact f60 [] [] _ _ _ _ (by decide) (by decide) (fun e he => by cases he) (fun e he => by cases he) _ _ Rd.nil Rd.nil
      repeat' (conv => whnf
               first
               | (((with_reducible apply Cmp.yes); · rfl))
               | (with_reducible refine NextSt.mk ?_)
               | (with_reducible refine OnBB.tt ?_))
      conv => whnf
      refine FinSt.ret ?_ rfl
      repeat (first | exact List.Sublist.refl _ | apply List.Sublist.cons | exact (List.Sublist.refl O).trans (List.sublist_append_right _ _) | apply sub_skip)
end Go.Proofs.Ytlbmlimaobkhpaa
