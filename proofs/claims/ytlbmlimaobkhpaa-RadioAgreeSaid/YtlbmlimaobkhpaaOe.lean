/- RadioAgree: the walk. -/
import Derived.Test.YtlbmlimaobkhpaaOb
import Derived.Test.YtlbmlimaobkhpaaOc
import Derived.Test.YtlbmlimaobkhpaaKa
set_option linter.unusedVariables false
set_option linter.unusedSimpArgs false
set_option linter.unusedSectionVars false
/- RadioAgree: the walk. -/
namespace Go.Gv
theorem SlSl.three {a : Option Addr} {len cap sz l r m : Nat} {k k' k2 : IntKind} {x y z : Int} {K : Value → Prop} (hx : x = l) (hy : y = r) (hz : z = m) (h1 : l ≤ r) (h2 : r ≤ m) (h3 : m ≤ cap) (hk : K (.slice (if m = l then a else a.map (·.add (l * sz))) (r - l) (m - l))) : SlSl a len cap (some (.int k x)) (some (.int k' y)) (some (.int k2 z)) sz K := by
  subst hx hy hz
  exact .mk l r m (.inr ⟨k, rfl⟩) (.inr ⟨k', rfl⟩) (.inr ⟨k2, rfl⟩) h1 h2 h3 hk
end Go.Gv
namespace Go.Proofs.Ytlbmlimaobkhpaa
open Go Go.Gv
set_option maxRecDepth 100000
set_option maxHeartbeats 8000000
set_option linter.unusedSimpArgs false
set_option linter.unusedVariables false
theorem pickV_subs {items : List En} {at_ : List Int} {e : En} (h : e ∈ pickV items at_) : e ∈ items := by
  obtain ⟨i, _, h2⟩ := List.mem_flatMap.1 h
  split at h2
  · rw [List.mem_singleton.1 h2]; exact getD_mem' (by omega)
  · cases h2
/-- What a book wants for another's tally. -/
theorem f58W (r : Dr) (b : Br) (S : DB) (M : List (List En)) (A B : Buf) (hl : M.length = S.2.logs.length) (hw : wfL S.2.logs) (hk : bOk r S.1 b S.2) (h : View) (hA : A.ok 1 ((M.map fun q => (q.length : Int)).map zV) M.length) (hB : B.ok 1 ((M.map sumL).map uN) M.length) :
    GSpec Try.prog 58 [pP b.p, .agg ⟨[.slice A.a M.length A.cap, .slice B.a M.length B.cap]⟩] h (bH r S.1 b S.2 ++ (A.hp 3 ((M.map fun q => (q.length : Int)).map zV) ++ B.hp 108 ((M.map sumL).map uN)))
      (New (bH r S.1 b S.2 ++ (A.hp 3 ((M.map fun q => (q.length : Int)).map zV) ++ B.hp 108 ((M.map sumL).map uN))) (RowE (wantL S.2.logs M))) := by
  have h8 := hw.len
  have e := f58 r b S ⟨A.a, A.cap, M.map fun q => (q.length : Int), B.a, B.cap, M.map sumL⟩ (A.hp 3 ((M.map fun q => (q.length : Int)).map zV) ++ B.hp 108 ((M.map sumL).map uN)) hw hk (by simp only [List.length_map]; exact hl) (by simp only [List.length_map]; exact hl)
    (fun n hn => by obtain ⟨q, _, rfl⟩ := List.mem_map.1 hn; omega) h ⟨Rd.appR (Rd.appL (Buf.rd hA)), Rd.appR (Rd.appR (Buf.rd hB)), by simp only [List.length_map]; omega, by simp only [List.length_map]; omega⟩
  simp only [tyV, List.length_map] at e
  exact e
theorem one_at {l : List Int} {k : Nat} (h : k < l.length) : ((l.map zV).drop (k * 1)).take 1 = [l.getD k default].map zV := by
  rw [Nat.mul_one, ← List.map_drop, ← List.map_take]
  congr 1
  rw [List.getD_eq_getElem?_getD, List.getElem?_eq_getElem h, List.drop_eq_getElem_cons h]
  rfl
theorem f9 (o s : Int) (a : Option Addr) (cap : Nat) (l : List En) (at_ bt : List Int) (a2 a3 : Option Addr) (c2 c3 : Nat) (hl : l.length ≤ 9223372036854775807) (hb : ∀ e ∈ l, (i64 e.office ∧ i64 e.no) ∧ e.body.length ≤ 9223372036854775807)
    (hal : at_.length ≤ 9223372036854775807) (hbl : bt.length ≤ 9223372036854775807) (hc2 : at_.length ≤ c2) (h : View) (O : Hp) (h1 : Rd h O a (l.flatMap enV)) (h2 : Rd h O a2 (at_.map zV)) (h3 : Rd h O a3 (bt.map zV)) :
    GSpec Try.prog 9 [.agg ⟨[.int .i64 o, .int .i64 s, .slice a l.length cap]⟩, .slice a2 at_.length c2, .slice a3 bt.length c3] h O (Ret O (.bool true)) := by
  have e52 : ∀ O, Rd h O a (l.flatMap enV) → GSpec Try.prog 52 [.agg ⟨[.int .i64 o, .int .i64 s, .slice a l.length cap]⟩] h O (Ret O (.bool (decide (Wd.few ⟨o, s, a, cap, l⟩)))) := fun O hr => f52 ⟨o, s, a, cap, l⟩ hl (fun e he => (hb e he).2) h O hr
  by_cases hf : Wd.few ⟨o, s, a, cap, l⟩
  · rw [decide_eq_true hf] at e52
    by_cases h30 : at_.length ≤ 30
    · by_cases h31 : bt.length ≤ 30
      · obtain ⟨⟨hf1, hf2, hf3, hf4, hf5⟩, hf6⟩ := hf
        simp only at hf1 hf2 hf3 hf4 hf5 hf6
        obtain ⟨o, rfl⟩ := nat_of (show 0 ≤ o by omega)
        have e53 : ∀ (at_ : List Int) (a2 : Option Addr) (c2 : Nat) O, at_.length ≤ 30 → Rd h O a (l.flatMap enV) → Rd h O a2 (at_.map zV) → GSpec Try.prog 53 [.agg ⟨[.int .i64 o, .int .i64 s, .slice a l.length cap]⟩, .slice a2 at_.length c2] h O (New O (RowR (pickV l at_))) := fun at_ a2 c2 O h30 hr hr2 => f53 ⟨o, s, a, cap, l⟩ at_ a2 c2 (by omega) hl h O hr hr2
        have hpw : ∀ at_ : List Int, ∀ e ∈ pickV l at_, enW e := fun at_ e he => by
          have h3 := hb e (pickV_subs he)
          have h4 := hf6 e (pickV_subs he)
          exact ⟨h3.1.1, h3.1.2, by omega⟩
        have hup := Up.new (o := o) (by omega)
        have hmk := new0_make (n := 4096) (o := o) (by decide) (by omega)
        have hlo : (new0 4096 o).2.logs.length = o := List.length_replicate
        generalize new0 4096 o = S0 at *
        have e54 : ∀ O, GSpec Try.prog 54 [.agg ⟨[.int .i64 o, .int .i64 s, .slice a l.length cap]⟩, .int .i64 4096] h O (New O (MadeB S0.1 S0.2)) := fun O => f54 ⟨o, s, a, cap, l⟩ 4096 S0.1 S0.2 ⟨by decide, by decide⟩ hmk h O
        refine GSpec.enter (fn := Try.f9) Try.func9 rfl (by kernel_rfl) ?_
        repeat' (conv => whnf
                 first
                 | ((with_reducible refine CallSt.rd (f := 17) (X := .bool true) ?_ ?_); (· exact f17 _ _))
                 | ((with_reducible refine CallSt.rd (f := 52) (X := .bool true) ?_ ?_); (· exact e52 _ (Rd.cons h1)))
                 | (with_reducible refine NextSt.mk ?_)
                 | (with_reducible refine OnBB.tt ?_)
                 | (with_reducible refine OnBB.ff ?_)
                 | ((with_reducible apply Cmp.no); · first | omega | (with_reducible assumption))
                 | ((with_reducible apply LoadSt.boxAgg); · (repeat (first | exact List.Mem.head _ | with_reducible apply List.mem_append_right | with_reducible apply List.mem_cons_of_mem)))
                 | ((with_reducible refine AllocSt.mk ?_); intro _b _hb _hbO))
        conv => whnf
        apply CallSt.new (e54 _); rintro _ _ ⟨r1, b1, hk1, rfl, rfl⟩
        repeat' (conv => whnf
                 first
                 | (with_reducible refine NextSt.mk ?_)
                 | ((with_reducible apply LoadSt.boxAgg); · (repeat (first | exact List.Mem.head _ | with_reducible apply List.mem_append_right | with_reducible apply List.mem_cons_of_mem))))
        conv => whnf
        apply CallSt.new (e54 _); rintro _ _ ⟨r2, b2, hk2, rfl, rfl⟩
        repeat' (conv => whnf
                 first
                 | (with_reducible refine NextSt.mk ?_)
                 | (with_reducible refine OnBB.ff ?_))
        conv => whnf
        obtain ⟨p1, sb1, wb1⟩ := r1
        obtain ⟨q1, lp1, ls1⟩ := b1
        obtain ⟨bx, hbx⟩ : ∃ x, x = _b := ⟨_, rfl⟩
        subst hbx
        refine LoopSt.fix [6, 11, 12, 13, 60, 61, 62, 63, 64, 65, 66, 67, 68, 69, 70, 71, 72, 73, 74, 75, 76, 77, 78, 79, 80, 81] (fun ((k, sb, wb, lp, ls) : Nat × Buf × Buf × Nat × List Lg) => [(11, iN k)]) (fun (k, sb, wb, lp, ls) => bH r2 S0.1 b2 S0.2 ++ (bH ⟨p1, sb, wb⟩ (onesI l S0 at_ k).1 ⟨q1, lp, ls⟩ (onesI l S0 at_ k).2 ++ ((bx, .cells ⟨[.int .i64 o, .int .i64 s, .slice a l.length cap]⟩ 65 (0, 0)) :: O))) (fun (k, sb, wb, lp, ls) => k ≤ at_.length ∧ bOk ⟨p1, sb, wb⟩ (onesI l S0 at_ k).1 ⟨q1, lp, ls⟩ (onesI l S0 at_ k).2) (fun (k, _) => at_.length - k) ((0, sb1, wb1, lp1, ls1)) _ (Wk.refl _ _) (rfl) ?_ ?_ ?_
        · repeat' (first | exact True.intro | refine And.intro ?_ ?_ | rfl | exact congrArg (Value.int _) (by omega) | exact congrArg (fun n => Value.slice _ n _) (by (try dsimp only); omega))
        · exact ⟨Nat.zero_le _, hk1⟩
        · rintro ⟨k, sb, wb, lp, ls⟩ d2 ⟨hk, hkk⟩
          dsimp only at hk hkk ⊢
          by_cases hkl : k < at_.length
          · obtain ⟨n, hst⟩ := ones_step (items := l) hup h30 hkl
            obtain ⟨hup1, hl1⟩ := ones_up (items := l) hup h30 k hk
            have hr1 : ∀ O, Rd h O a2 (at_.map zV) → Rd h O (if k + 1 = k then a2 else a2.map (·.add (k * 1))) ([at_.getD k default].map zV) := fun O hr => by
              have := (hr.slice k (k + 1) 1 (fun e => by omega)).take 1
              rwa [one_at hkl] at this
            repeat' (conv => whnf
                     first
                     | (((apply SlSl.three (l := k) (r := k + 1) (m := k + 1)); (· rfl); (· rfl); (· rfl); (· omega); (· omega); (· omega)); rw [Nat.add_sub_cancel_left])
                     | ((with_reducible refine DrawSt.walkT [0, 1, 2, 3, 4, 5, 6, 7, 8, 9] 10 [11, 12, 13, 14, 15] mixed ?_ ?_); · decide +kernel)
                     | (with_reducible refine NextSt.mk ?_)
                     | (with_reducible refine OnBB.tt ?_)
                     | ((with_reducible apply NW.addN); (· first | with_reducible rfl | exact natL _); (· first | with_reducible rfl | exact natL _); (· omega))
                     | ((with_reducible apply Cmp.yes); · first | omega | (with_reducible assumption) | (with_reducible rfl))
                     | ((with_reducible apply LoadSt.boxAgg); · (repeat (first | exact List.Mem.head _ | with_reducible apply List.mem_append_right | with_reducible apply List.mem_cons_of_mem))))
            conv => whnf
            apply CallG.new (e53 [at_.getD k default] _ 1 _ (by simp) (Rd.appR (Rd.appR (Rd.cons h1))) (hr1 _ (Rd.appR (Rd.appR (Rd.cons h2))))); rintro _ _ ⟨A, rfl, rfl, hA⟩
            repeat' (conv => whnf
                     first
                     | (with_reducible refine NextSt.mk ?_))
            conv => whnf
            have hpl := pickV_len (items := l) [at_.getD k default]
            rw [List.length_singleton] at hpl
            with_reducible apply CallSt.locG (f := 55) (H := bH ⟨p1, sb, wb⟩ (onesI l S0 at_ k).1 ⟨q1, lp, ls⟩ (onesI l S0 at_ k).2) (G := A.hp 70 ((pickV l [at_.getD k default]).flatMap enV)) (R := BR ⟨p1, sb, wb⟩ ⟨q1, lp, ls⟩ (onesI l S0 at_ (k + 1)) (.tuple ⟨[iN n, .int .i64 0]⟩))
            · (repeat (first | with_reducible exact Loc.hd | with_reducible exact Loc.last | with_reducible exact Loc.one | with_reducible apply Loc.tl | with_reducible apply Loc.skip))
            · (repeat (first | with_reducible exact Loc.hd | with_reducible exact Loc.last | with_reducible exact Loc.one | with_reducible apply Loc.tl | with_reducible apply Loc.skip))
            · exact f55L ⟨p1, sb, wb⟩ ⟨q1, lp, ls⟩ (onesI l S0 at_ k) _ (20 + 10560 * k) n 0 (pickV l [at_.getD k default]) A.a A.cap _ (hpw _) (by omega) hup1.ok (by omega) hkk hst _ (Buf.rd hA)
            rintro _ _ ⟨⟨p3, sb3, wb3⟩, ⟨q3, lp3, ls3⟩, hp3, hq3, hk3, rfl, rfl⟩
            obtain rfl : p3 = p1 := hp3
            obtain rfl : q3 = q1 := hq3
            repeat' (conv => whnf
                     first
                     | (((with_reducible apply Cmp.no); · exact fun h => h rfl))
                     | (with_reducible refine NextSt.mk ?_)
                     | (with_reducible refine OnBB.ff ?_)
                     | ((with_reducible apply NW.addN); (· first | with_reducible rfl | exact natL _); (· first | with_reducible rfl | exact natL _); (· omega)))
            refine RoundFix.mk ((k + 1, sb3, wb3, lp3, ls3)) ?_ ?_ _ rfl (Wk.drop (by (try dsimp only); (try simp only [List.cons_append, List.nil_append]); (repeat (first | with_reducible exact List.Sublist.refl _ | with_reducible exact List.nil_sublist _ | with_reducible apply List.Sublist.cons_cons | with_reducible apply sub_app | apply List.Sublist.cons_cons | apply sub_app | with_reducible apply List.Sublist.cons | with_reducible apply sub_skip)))) ?_
            · dsimp only; omega
            · repeat' (first | exact True.intro | refine And.intro ?_ ?_ | rfl | exact congrArg (Value.int _) (by omega) | exact congrArg (fun n => Value.slice _ n _) (by (try dsimp only); omega))
            · exact ⟨by omega, hk3⟩
          · have : k = at_.length := by omega
            subst this
            obtain ⟨hupA, hlA⟩ := ones_up (items := l) hup h30 _ (Nat.le_refl _)
            generalize onesI l S0 at_ at_.length = SA at *
            obtain ⟨SB, nb, hsb, hupB, _, _⟩ := hup.take (l := pickV l bt) (m := bt.length + 1) (Nat.le_succ_of_le (pickV_len bt)) (by omega) (by omega)
            have hlB := takeV_len S0 (pickV l bt)
            rw [hsb] at hlB
            have hpbl := pickV_len (items := l) bt
            repeat' (conv => whnf
                     first
                     | (with_reducible refine NextSt.mk ?_)
                     | (with_reducible refine OnBB.ff ?_)
                     | ((with_reducible apply Cmp.no); · first | omega | (with_reducible assumption))
                     | ((with_reducible apply LoadSt.boxAgg); · (repeat (first | exact List.Mem.head _ | with_reducible apply List.mem_append_right | with_reducible apply List.mem_cons_of_mem))))
            conv => whnf
            apply CallSt.new (e53 bt a3 c3 _ h31 (Rd.appR (Rd.appR (Rd.cons h1))) (Rd.appR (Rd.appR (Rd.cons h3)))); rintro _ _ ⟨A, rfl, rfl, hA⟩
            repeat' (conv => whnf
                     first
                     | fail)
            conv => whnf
            with_reducible apply CallSt.locG (f := 55) (H := bH r2 S0.1 b2 S0.2) (G := A.hp 70 ((pickV l bt).flatMap enV)) (R := BR r2 b2 SB (.tuple ⟨[iN nb, .int .i64 0]⟩))
            · (repeat (first | with_reducible exact Loc.hd | with_reducible exact Loc.last | with_reducible exact Loc.one | with_reducible apply Loc.tl | with_reducible apply Loc.skip))
            · (repeat (first | with_reducible exact Loc.hd | with_reducible exact Loc.last | with_reducible exact Loc.one | with_reducible apply Loc.tl | with_reducible apply Loc.skip))
            · exact f55L r2 b2 S0 SB 20 nb 0 (pickV l bt) A.a A.cap _ (hpw _) (by omega) hup.ok (by decide) hk2 hsb _ (Buf.rd hA)
            rintro _ _ ⟨⟨p4, sb4, wb4⟩, ⟨q4, lp4, ls4⟩, hp4, hq4, hk4, rfl, rfl⟩
            obtain rfl : p4 = r2.p := hp4
            obtain rfl : q4 = b2.p := hq4
            have hAw := hupA.ok.wf
            have hBw := hupB.ok.wf
            simp only at hlB
            repeat' (conv => whnf
                     first
                     | (((with_reducible apply Cmp.no); · exact fun h => h rfl))
                     | (with_reducible refine NextSt.mk ?_)
                     | (with_reducible refine OnBB.ff ?_))
            conv => whnf
            refine LoopSt.fix [6, 16, 17, 18, 19, 20, 92, 93, 94, 95, 96, 97, 98, 99, 100, 101, 102, 103, 104, 105, 106, 107, 108, 109, 110, 111, 112, 113, 114, 115, 116, 117, 118, 119] (fun (p : Nat) => [(16, iN p)]) (fun _ => bH ⟨r2.p, sb4, wb4⟩ SB.1 ⟨b2.p, lp4, ls4⟩ SB.2 ++ (bH ⟨p1, sb, wb⟩ SA.1 ⟨q1, lp, ls⟩ SA.2 ++ ((bx, .cells ⟨[.int .i64 o, .int .i64 s, .slice a l.length cap]⟩ 65 (0, 0)) :: O))) (fun p => p ≤ o ∧ ∀ q < p, plainL (SA.2.logs.getD q []) (SB.2.logs.getD q [])) (fun p => o - p) (0) _ (Wk.drop (by (try dsimp only); (try simp only [List.cons_append, List.nil_append]); (repeat (first | with_reducible exact List.Sublist.refl _ | with_reducible exact List.nil_sublist _ | with_reducible apply List.Sublist.cons_cons | with_reducible apply sub_app | apply List.Sublist.cons_cons | apply sub_app | with_reducible apply List.Sublist.cons | with_reducible apply sub_skip)))) (rfl) ?_ ?_ ?_
            · repeat' (first | exact True.intro | refine And.intro ?_ ?_ | rfl | exact congrArg (Value.int _) (by omega) | exact congrArg (fun n => Value.slice _ n _) (by (try dsimp only); omega))
            · exact ⟨Nat.zero_le _, fun q hq => by omega⟩
            · rintro p d3 ⟨hp, hpl⟩
              dsimp only at hp hpl ⊢
              by_cases hpo : p < o
              · have x1 := hAw.log p (by omega)
                have x2 := hBw.log p (by omega)
                repeat' (conv => whnf
                         first
                         | (with_reducible refine NextSt.mk ?_)
                         | (with_reducible refine OnBB.tt ?_)
                         | ((with_reducible apply Cmp.yes); · first | omega | (with_reducible assumption) | (with_reducible rfl))
                         | ((with_reducible apply LoadSt.box); · (repeat (first | exact List.Mem.head _ | with_reducible apply List.mem_append_right | with_reducible apply List.mem_cons_of_mem))))
                conv => whnf
                apply CallSt.new (R := RowE (SA.2.logs.getD p []))
                · apply GSpec.locNew (H := bH ⟨p1, sb, wb⟩ SA.1 ⟨q1, lp, ls⟩ SA.2)
                  · (repeat (first | with_reducible exact Loc.hd | with_reducible exact Loc.last | with_reducible exact Loc.one | with_reducible apply Loc.tl | with_reducible apply Loc.skip))
                  · exact GSpec.locNew (Gv.Loc.skip Gv.Loc.last) (f62 p1 ⟨q1, lp, ls⟩ SA.2 p (by omega) hAw hkk.k _)
                rintro _ _ ⟨X, rfl, rfl, hX⟩
                repeat' (conv => whnf
                         first
                         | (with_reducible refine NextSt.mk ?_))
                conv => whnf
                apply CallSt.new (R := RowE (SB.2.logs.getD p []))
                · apply GSpec.locNew (H := bH ⟨r2.p, sb4, wb4⟩ SB.1 ⟨b2.p, lp4, ls4⟩ SB.2)
                  · (repeat (first | with_reducible exact Loc.hd | with_reducible exact Loc.last | with_reducible exact Loc.one | with_reducible apply Loc.tl | with_reducible apply Loc.skip))
                  · exact GSpec.locNew (Gv.Loc.skip Gv.Loc.last) (f62 r2.p ⟨b2.p, lp4, ls4⟩ SB.2 p (by omega) hBw hk4.k _)
                rintro _ _ ⟨Y, rfl, rfl, hY⟩
                repeat' (conv => whnf
                         first
                         | (((with_reducible apply Cmp.no); · exact fun h => h rfl))
                         | (with_reducible refine NextSt.mk ?_)
                         | (with_reducible refine OnBB.ff ?_))
                conv => whnf
                apply CallSt.rel (f63 (SA.2.logs.getD p []) (SB.2.logs.getD p []) X.a Y.a X.cap Y.cap (by omega) (by omega) (Buf.le hX) (Buf.le hY) (fun e he => hAw.mem (by omega) he) (fun e he => hBw.mem (by omega) he) _ _ (Rd.appR (Rd.appL (Buf.rd hX))) (Rd.appL (Buf.rd hY)))
                rintro _ ⟨b, rfl, hbp⟩
                cases b with
                | false =>
                  repeat' (conv => whnf
                           first
                           | (with_reducible refine NextSt.mk ?_)
                           | (with_reducible refine OnBB.tt ?_)
                           | (with_reducible refine OnBB.ff ?_))
                  conv => whnf
                  refine FinSt.ret (by (try dsimp only); (try simp only [List.cons_append, List.nil_append]); (repeat (first | with_reducible exact List.Sublist.refl _ | with_reducible exact List.nil_sublist _ | with_reducible apply List.Sublist.cons_cons | with_reducible apply sub_app | apply List.Sublist.cons_cons | apply sub_app | with_reducible apply List.Sublist.cons | with_reducible apply sub_skip))) ?_
                  rfl
                | true =>
                  repeat' (conv => whnf
                           first
                           | (with_reducible refine NextSt.mk ?_)
                           | (with_reducible refine OnBB.tt ?_)
                           | (with_reducible refine OnBB.ff ?_)
                           | ((with_reducible apply NW.addN); (· first | with_reducible rfl | exact natL _); (· first | with_reducible rfl | exact natL _); (· omega)))
                  refine RoundFix.mk (p + 1) ?_ ?_ _ rfl (Wk.drop (by (try dsimp only); (try simp only [List.cons_append, List.nil_append]); (repeat (first | with_reducible exact List.Sublist.refl _ | with_reducible exact List.nil_sublist _ | with_reducible apply List.Sublist.cons_cons | with_reducible apply sub_app | apply List.Sublist.cons_cons | apply sub_app | with_reducible apply List.Sublist.cons | with_reducible apply sub_skip)))) ?_
                  · omega
                  · repeat' (first | exact True.intro | refine And.intro ?_ ?_ | rfl | exact congrArg (Value.int _) (by omega) | exact congrArg (fun n => Value.slice _ n _) (by (try dsimp only); omega))
                  · refine ⟨by omega, fun q hq => ?_⟩
                    by_cases hqp : q = p
                    · subst hqp; exact hbp rfl
                    · exact hpl q (by omega)
              · have : p = o := by omega
                subst this
                obtain ⟨TA, TB, na, nc, ta, tb, wA, wB, hAB⟩ := agree_plain hupA hupB (by omega) (by omega) (by omega) (fun q hq => hpl q (by omega))
                have q1w := want_le (A := SA.2.logs) (B := SB.2.logs) hAw
                have q2w := want_le (A := SB.2.logs) (B := SA.2.logs) hBw
                have x1 := hAw.len
                repeat' (conv => whnf
                         first
                         | (with_reducible refine NextSt.mk ?_)
                         | (with_reducible refine OnBB.ff ?_)
                         | ((with_reducible apply Cmp.no); · first | omega | (with_reducible assumption))
                         | ((with_reducible apply LoadSt.box); · (repeat (first | exact List.Mem.head _ | with_reducible apply List.mem_append_right | with_reducible apply List.mem_cons_of_mem))))
                conv => whnf
                apply CallSt.new (R := TyR SB.2.logs)
                · apply GSpec.locNew (H := bH ⟨r2.p, sb4, wb4⟩ SB.1 ⟨b2.p, lp4, ls4⟩ SB.2)
                  · (repeat (first | with_reducible exact Loc.hd | with_reducible exact Loc.last | with_reducible exact Loc.one | with_reducible apply Loc.tl | with_reducible apply Loc.skip))
                  · exact f59 ⟨r2.p, sb4, wb4⟩ ⟨b2.p, lp4, ls4⟩ SB hBw hk4 _
                rintro _ _ ⟨X1, Y1, rfl, rfl, hX1, hY1⟩
                repeat' (conv => whnf
                         first
                         | fail)
                conv => whnf
                apply CallSt.new (R := RowE (wantL SA.2.logs SB.2.logs))
                · apply GSpec.locGNew' (H := bH ⟨p1, sb, wb⟩ SA.1 ⟨q1, lp, ls⟩ SA.2) (G := X1.hp 3 ((SB.2.logs.map fun q => (q.length : Int)).map zV) ++ Y1.hp 108 ((SB.2.logs.map sumL).map uN))
                  · (repeat (first | with_reducible exact Loc.hd | with_reducible exact Loc.last | with_reducible exact Loc.one | with_reducible apply Loc.tl | with_reducible apply Loc.skip))
                  · exact Gv.Loc.hd
                  · exact f58W ⟨p1, sb, wb⟩ ⟨q1, lp, ls⟩ SA SB.2.logs X1 Y1 (by omega) hAw hkk _ hX1 hY1
                rintro _ _ ⟨C, rfl, rfl, hC⟩
                repeat' (conv => whnf
                         first
                         | (with_reducible refine NextSt.mk ?_))
                conv => whnf
                apply CallSt.new (R := TyR SA.2.logs)
                · apply GSpec.locNew (H := bH ⟨p1, sb, wb⟩ SA.1 ⟨q1, lp, ls⟩ SA.2)
                  · (repeat (first | with_reducible exact Loc.hd | with_reducible exact Loc.last | with_reducible exact Loc.one | with_reducible apply Loc.tl | with_reducible apply Loc.skip))
                  · exact f59 ⟨p1, sb, wb⟩ ⟨q1, lp, ls⟩ SA hAw hkk _
                rintro _ _ ⟨X2, Y2, rfl, rfl, hX2, hY2⟩
                repeat' (conv => whnf
                         first
                         | fail)
                conv => whnf
                apply CallSt.new (R := RowE (wantL SB.2.logs SA.2.logs))
                · apply GSpec.locGNew' (H := bH ⟨r2.p, sb4, wb4⟩ SB.1 ⟨b2.p, lp4, ls4⟩ SB.2) (G := X2.hp 3 ((SA.2.logs.map fun q => (q.length : Int)).map zV) ++ Y2.hp 108 ((SA.2.logs.map sumL).map uN))
                  · (repeat (first | with_reducible exact Loc.hd | with_reducible exact Loc.last | with_reducible exact Loc.one | with_reducible apply Loc.tl | with_reducible apply Loc.skip))
                  · exact Gv.Loc.hd
                  · exact f58W ⟨r2.p, sb4, wb4⟩ ⟨b2.p, lp4, ls4⟩ SB SA.2.logs X2 Y2 (by omega) hBw hk4 _ hX2 hY2
                rintro _ _ ⟨D, rfl, rfl, hD⟩
                repeat' (conv => whnf
                         first
                         | (with_reducible refine NextSt.mk ?_))
                conv => whnf
                with_reducible apply CallSt.locG (f := 55) (H := bH ⟨p1, sb, wb⟩ SA.1 ⟨q1, lp, ls⟩ SA.2) (G := D.hp 70 ((wantL SB.2.logs SA.2.logs).flatMap enV)) (R := BR ⟨p1, sb, wb⟩ ⟨q1, lp, ls⟩ TA (.tuple ⟨[iN na, .int .i64 0]⟩))
                · (repeat (first | with_reducible exact Loc.hd | with_reducible exact Loc.last | with_reducible exact Loc.one | with_reducible apply Loc.tl | with_reducible apply Loc.skip))
                · (repeat (first | with_reducible exact Loc.hd | with_reducible exact Loc.last | with_reducible exact Loc.one | with_reducible apply Loc.tl | with_reducible apply Loc.skip))
                · exact f55L ⟨p1, sb, wb⟩ ⟨q1, lp, ls⟩ SA TA (20 + 10560 * at_.length) na 0 (wantL SB.2.logs SA.2.logs) D.a D.cap _ (fun e he => (want_ok hBw he).w) (by omega) hupA.ok (by omega) hkk ta _ (Buf.rd hD)
                rintro _ _ ⟨⟨p5, sb5, wb5⟩, ⟨q5, lp5, ls5⟩, hp5, hq5, hk5, rfl, rfl⟩
                obtain rfl : p5 = p1 := hp5
                obtain rfl : q5 = q1 := hq5
                repeat' (conv => whnf
                         first
                         | (with_reducible refine NextSt.mk ?_))
                conv => whnf
                with_reducible apply CallSt.locG (f := 55) (H := bH ⟨r2.p, sb4, wb4⟩ SB.1 ⟨b2.p, lp4, ls4⟩ SB.2) (G := C.hp 70 ((wantL SA.2.logs SB.2.logs).flatMap enV)) (R := BR ⟨r2.p, sb4, wb4⟩ ⟨b2.p, lp4, ls4⟩ TB (.tuple ⟨[iN nc, .int .i64 0]⟩))
                · (repeat (first | with_reducible exact Loc.hd | with_reducible exact Loc.last | with_reducible exact Loc.one | with_reducible apply Loc.tl | with_reducible apply Loc.skip))
                · (repeat (first | with_reducible exact Loc.hd | with_reducible exact Loc.last | with_reducible exact Loc.one | with_reducible apply Loc.tl | with_reducible apply Loc.skip))
                · exact f55L ⟨r2.p, sb4, wb4⟩ ⟨b2.p, lp4, ls4⟩ SB TB (20 + 10560 * (0 + (bt.length + 1))) nc 0 (wantL SA.2.logs SB.2.logs) C.a C.cap _ (fun e he => (want_ok hAw he).w) (by omega) hupB.ok (by omega) hk4 tb _ (Buf.rd hC)
                rintro _ _ ⟨⟨p6, sb6, wb6⟩, ⟨q6, lp6, ls6⟩, hp6, hq6, hk6, rfl, rfl⟩
                obtain rfl : p6 = r2.p := hp6
                obtain rfl : q6 = b2.p := hq6
                repeat' (conv => whnf
                         first
                         | (((with_reducible apply Cmp.yes); · rfl))
                         | (with_reducible refine NextSt.mk ?_)
                         | (with_reducible refine OnBB.tt ?_))
                conv => whnf
                refine CallSt.rd (f := 56) (X := .bool true) (f56 ⟨p5, sb5, wb5⟩ ⟨r2.p, sb6, wb6⟩ ⟨q5, lp5, ls5⟩ ⟨b2.p, lp6, ls6⟩ TA TB _ (by (repeat (first | with_reducible exact Loc.hd | with_reducible exact Loc.last | with_reducible exact Loc.one | with_reducible apply Loc.tl | with_reducible apply Loc.skip))) (by (repeat (first | with_reducible exact Loc.hd | with_reducible exact Loc.last | with_reducible exact Loc.one | with_reducible apply Loc.tl | with_reducible apply Loc.skip))) wA wB hk5 hk6 hAB _) ?_
                repeat' (conv => whnf
                         first
                         | (with_reducible refine NextSt.mk ?_)
                         | (with_reducible refine OnBB.tt ?_))
                conv => whnf
                refine FinSt.ret (by (try dsimp only); (try simp only [List.cons_append, List.nil_append]); (repeat (first | with_reducible exact List.Sublist.refl _ | with_reducible exact List.nil_sublist _ | with_reducible apply List.Sublist.cons_cons | with_reducible apply sub_app | apply List.Sublist.cons_cons | apply sub_app | with_reducible apply List.Sublist.cons | with_reducible apply sub_skip))) ?_
                rfl
      · refine GSpec.enter (fn := Try.f9) Try.func9 rfl (by kernel_rfl) ?_
        repeat' (conv => whnf
                 first
                 | ((with_reducible refine CallSt.rd (f := 17) (X := .bool true) ?_ ?_); (· exact f17 _ _))
                 | ((with_reducible refine CallSt.rd (f := 52) (X := .bool true) ?_ ?_); (· exact e52 _ (Rd.cons h1)))
                 | (with_reducible refine NextSt.mk ?_)
                 | (with_reducible refine OnBB.tt ?_)
                 | (with_reducible refine OnBB.ff ?_)
                 | ((with_reducible apply Cmp.yes); · first | omega | (with_reducible assumption) | (with_reducible rfl))
                 | ((with_reducible apply Cmp.no); · first | omega | (with_reducible assumption))
                 | ((with_reducible apply LoadSt.boxAgg); · (repeat (first | exact List.Mem.head _ | with_reducible apply List.mem_append_right | with_reducible apply List.mem_cons_of_mem)))
                 | ((with_reducible refine AllocSt.mk ?_); intro _b _hb _hbO))
        conv => whnf
        refine FinSt.ret (by (try dsimp only); (try simp only [List.cons_append, List.nil_append]); (repeat (first | with_reducible exact List.Sublist.refl _ | with_reducible exact List.nil_sublist _ | with_reducible apply List.Sublist.cons_cons | with_reducible apply sub_app | apply List.Sublist.cons_cons | apply sub_app | with_reducible apply List.Sublist.cons | with_reducible apply sub_skip))) ?_
        rfl
    · refine GSpec.enter (fn := Try.f9) Try.func9 rfl (by kernel_rfl) ?_
      repeat' (conv => whnf
               first
               | ((with_reducible refine CallSt.rd (f := 17) (X := .bool true) ?_ ?_); (· exact f17 _ _))
               | ((with_reducible refine CallSt.rd (f := 52) (X := .bool true) ?_ ?_); (· exact e52 _ (Rd.cons h1)))
               | (with_reducible refine NextSt.mk ?_)
               | (with_reducible refine OnBB.tt ?_)
               | (with_reducible refine OnBB.ff ?_)
               | ((with_reducible apply Cmp.yes); · first | omega | (with_reducible assumption) | (with_reducible rfl))
               | ((with_reducible apply LoadSt.boxAgg); · (repeat (first | exact List.Mem.head _ | with_reducible apply List.mem_append_right | with_reducible apply List.mem_cons_of_mem)))
               | ((with_reducible refine AllocSt.mk ?_); intro _b _hb _hbO))
      conv => whnf
      refine FinSt.ret (by (try dsimp only); (try simp only [List.cons_append, List.nil_append]); (repeat (first | with_reducible exact List.Sublist.refl _ | with_reducible exact List.nil_sublist _ | with_reducible apply List.Sublist.cons_cons | with_reducible apply sub_app | apply List.Sublist.cons_cons | apply sub_app | with_reducible apply List.Sublist.cons | with_reducible apply sub_skip))) ?_
      rfl
  · rw [decide_eq_false hf] at e52
    refine GSpec.enter (fn := Try.f9) Try.func9 rfl (by kernel_rfl) ?_
    repeat' (conv => whnf
             first
             | ((with_reducible refine CallSt.rd (f := 17) (X := .bool true) ?_ ?_); (· exact f17 _ _))
             | ((with_reducible refine CallSt.rd (f := 52) (X := .bool false) ?_ ?_); (· exact e52 _ (Rd.cons h1)))
             | (with_reducible refine NextSt.mk ?_)
             | (with_reducible refine OnBB.tt ?_)
             | (with_reducible refine OnBB.ff ?_)
             | ((with_reducible apply LoadSt.boxAgg); · (repeat (first | exact List.Mem.head _ | with_reducible apply List.mem_append_right | with_reducible apply List.mem_cons_of_mem)))
             | ((with_reducible refine AllocSt.mk ?_); intro _b _hb _hbO))
    conv => whnf
    refine FinSt.ret (by (try dsimp only); (try simp only [List.cons_append, List.nil_append]); (repeat (first | with_reducible exact List.Sublist.refl _ | with_reducible exact List.nil_sublist _ | with_reducible apply List.Sublist.cons_cons | with_reducible apply sub_app | apply List.Sublist.cons_cons | apply sub_app | with_reducible apply List.Sublist.cons | with_reducible apply sub_skip))) ?_
    rfl
end Go.Proofs.Ytlbmlimaobkhpaa
