/- RadioOnce: the walk; what arguments read as. -/
import Derived.Test.YtlbmlimaobkhpaaKa
import Derived.Test.YtlbmlimaobkhpaaGd
import Derived.Test.YtlbmlimaobkhpaaPa
import Derived.Test.YtlbmlimaobkhpaaOa
set_option linter.unusedVariables false
set_option linter.unusedSimpArgs false
set_option linter.unusedSectionVars false
/- RadioOnce: the contracts as the law needs them. -/
namespace Go.Proofs.Ytlbmlimaobkhpaa
open Go Go.Gv
set_option linter.unusedSimpArgs false
set_option linter.unusedVariables false
theorem want_own (L : List (List En)) : ∀ k, k ≤ L.length → wantI L (L.map fun q => (q.length : Int)) (L.map sumL) k = []
  | 0, _ => rfl
  | k + 1, hk => by
    rw [wantI, want_own L k (by omega), mapD (d := []) (by omega), mapD (d := []) (by omega), List.nil_append]
    unfold wantN
    rw [Int.toNat_natCast, List.take_length, if_neg (fun h => h.elim (fun h => by omega) fun h => h rfl), List.drop_length]
/-- Taking, where the list is owned as well. -/
theorem f55L (r : Dr) (b : Br) (S T : DB) (B n : Nat) (x : Int) (l : List En) (a : Option Addr) (cap : Nat) (G : Hp) (hw : ∀ e ∈ l, enW e) (hl : l.length < 1000000) (hS : okS B S) (hB : B + 20000 < 1000000000) (hk : bOk r S.1 b S.2) (ht : takeV S l = ⟨T, n, x⟩) (h : View) (hr : Rd h G a (l.flatMap enV)) :
    GSpec Try.prog 55 [pP b.p, .slice a l.length cap] h (G ++ bH r S.1 b S.2) (fun v _ O' => ∃ H', O' = G ++ H' ∧ BR r b T (.tuple ⟨[iN n, .int .i64 x]⟩) v H') := by
  have e := f55 r b S B l a cap G hw hl hS hB hk h hr
  rw [ht] at e
  exact e.mono fun v h' O' ⟨r', b', h1, h2, h3, h4, h5⟩ => ⟨bH r' T.1 b' T.2, h4, r', b', h1, h2, h3, rfl, h5⟩
/-- What a book wants for its own tally: nothing. -/
theorem f58L (r : Dr) (b : Br) (S : DB) (A B : Buf) (hw : wfL S.2.logs) (hk : bOk r S.1 b S.2) (h : View) (hA : A.ok 1 ((S.2.logs.map fun q => (q.length : Int)).map zV) S.2.logs.length) (hB : B.ok 1 ((S.2.logs.map sumL).map uN) S.2.logs.length) :
    GSpec Try.prog 58 [pP b.p, .agg ⟨[.slice A.a S.2.logs.length A.cap, .slice B.a S.2.logs.length B.cap]⟩] h (bH r S.1 b S.2 ++ (A.hp 3 ((S.2.logs.map fun q => (q.length : Int)).map zV) ++ B.hp 108 ((S.2.logs.map sumL).map uN)))
      (New (bH r S.1 b S.2 ++ (A.hp 3 ((S.2.logs.map fun q => (q.length : Int)).map zV) ++ B.hp 108 ((S.2.logs.map sumL).map uN))) fun v H => ∃ C : Buf, v = .tuple ⟨[.slice C.a 0 C.cap, .int .i64 0]⟩ ∧ H = C.hp 70 [] ∧ C.ok 3 [] 0) := by
  have h8 := hw.len
  have e := f58 r b S ⟨A.a, A.cap, S.2.logs.map fun q => (q.length : Int), B.a, B.cap, S.2.logs.map sumL⟩ (A.hp 3 ((S.2.logs.map fun q => (q.length : Int)).map zV) ++ B.hp 108 ((S.2.logs.map sumL).map uN)) hw hk (by simp only [List.length_map]) (by simp only [List.length_map])
    (fun n hn => by obtain ⟨q, _, rfl⟩ := List.mem_map.1 hn; omega) h ⟨Rd.appR (Rd.appL (Buf.rd hA)), Rd.appR (Rd.appR (Buf.rd hB)), by simp only [List.length_map]; omega, by simp only [List.length_map]; omega⟩
  simp only [tyV, List.length_map, want_own S.2.logs _ (Nat.le_refl _)] at e
  exact e
end Go.Proofs.Ytlbmlimaobkhpaa
/- RadioOnce: the walk. -/
namespace Go.Proofs.Ytlbmlimaobkhpaa
open Go Go.Gv
set_option maxRecDepth 100000
set_option maxHeartbeats 8000000
set_option linter.unusedSimpArgs false
set_option linter.unusedVariables false
theorem pickV_sub {items : List En} {at_ : List Int} {e : En} (h : e ∈ pickV items at_) : e ∈ items := by
  obtain ⟨i, _, h2⟩ := List.mem_flatMap.1 h
  split at h2
  · rw [List.mem_singleton.1 h2]; exact getD_mem' (by omega)
  · cases h2
theorem f8 (o s : Int) (a : Option Addr) (cap : Nat) (l : List En) (at_ : List Int) (a2 : Option Addr) (c2 t : Nat) (ht : t < 256) (hl : l.length ≤ 9223372036854775807) (hb : ∀ e ∈ l, (i64 e.office ∧ i64 e.no) ∧ e.body.length ≤ 9223372036854775807)
    (hal : at_.length ≤ 9223372036854775807) (h : View) (O : Hp) (h1 : Rd h O a (l.flatMap enV)) (h2 : Rd h O a2 (at_.map zV)) :
    GSpec Try.prog 8 [.agg ⟨[.int .i64 o, .int .i64 s, .slice a l.length cap]⟩, .slice a2 at_.length c2, bN t] h O (Ret O (.bool true)) := by
  have e52 : ∀ O, Rd h O a (l.flatMap enV) → GSpec Try.prog 52 [.agg ⟨[.int .i64 o, .int .i64 s, .slice a l.length cap]⟩] h O (Ret O (.bool (decide (Wd.few ⟨o, s, a, cap, l⟩)))) := fun O hr => f52 ⟨o, s, a, cap, l⟩ hl (fun e he => (hb e he).2) h O hr
  by_cases hf : Wd.few ⟨o, s, a, cap, l⟩
  · rw [decide_eq_true hf] at e52
    by_cases h30 : at_.length ≤ 30
    · obtain ⟨⟨hf1, hf2, hf3, hf4, hf5⟩, hf6⟩ := hf
      simp only at hf1 hf2 hf3 hf4 hf5 hf6
      obtain ⟨o, rfl⟩ := nat_of (show 0 ≤ o by omega)
      have e53 : ∀ O, Rd h O a (l.flatMap enV) → Rd h O a2 (at_.map zV) → GSpec Try.prog 53 [.agg ⟨[.int .i64 o, .int .i64 s, .slice a l.length cap]⟩, .slice a2 at_.length c2] h O (New O (RowR (pickV l at_))) := fun O hr hr2 => f53 ⟨o, s, a, cap, l⟩ at_ a2 c2 (by omega) hl h O hr hr2
      have hgl := pickV_len (items := l) at_
      have hgw : ∀ e ∈ pickV l at_, enW e := fun e he => by
        have h3 := hb e (pickV_sub he)
        have h4 := hf6 e (pickV_sub he)
        exact ⟨h3.1.1, h3.1.2, by omega⟩
      generalize pickV l at_ = g at *
      obtain ⟨S0, S1, n, hmk, hK⟩ := once_plain (o := o) (by omega) (g := g) (by omega) (backI_mem g t)
      have e54 : ∀ O, GSpec Try.prog 54 [.agg ⟨[.int .i64 o, .int .i64 s, .slice a l.length cap]⟩, .int .i64 4096] h O (New O (MadeB S0.1 S0.2)) := fun O => f54 ⟨o, s, a, cap, l⟩ 4096 S0.1 S0.2 ⟨by decide, by decide⟩ hmk h O
      have hbl := backI_len g t
      refine GSpec.enter (fn := Try.f8) Try.func8 rfl (by kernel_rfl) ?_
      repeat' (conv => whnf
               first
               | ((with_reducible refine CallSt.rd (f := 17) (X := .bool true) ?_ ?_); (· exact f17 _ _))
               | ((with_reducible refine CallSt.rd (f := 52) (X := .bool true) ?_ ?_); (· exact e52 _ (Rd.cons h1)))
               | ((apply CallSt.new (e53 _ (Rd.cons h1) (Rd.cons h2)); rintro _ _ ⟨A, rfl, rfl, hA⟩))
               | (with_reducible refine NextSt.mk ?_)
               | (with_reducible refine OnBB.tt ?_)
               | (with_reducible refine OnBB.ff ?_)
               | ((with_reducible apply NW.i64); · omega)
               | ((with_reducible apply Cmp.no); · first | omega | (with_reducible assumption))
               | ((with_reducible apply LoadSt.boxAgg); · (repeat (first | exact List.Mem.head _ | with_reducible apply List.mem_append_right | with_reducible apply List.mem_cons_of_mem)))
               | ((with_reducible refine AllocSt.mk ?_); intro _b _hb _hbO))
      refine LoopSt.fix [8, 9, 40, 41, 42, 43, 44, 45, 46, 47, 48, 49, 50, 51, 52, 53, 54, 55, 56, 57, 58, 59, 60, 61, 62, 63] (fun ((k, B) : Nat × Buf) => [(8, .slice B.a (backI g t k).length B.cap), (9, .int .i64 ((g.length : Int) - 1 - k))]) (fun (k, B) => B.hp 70 ((backI g t k).flatMap enV) ++ (A.hp 70 (g.flatMap enV) ++ ((_b, .cells ⟨[.int .i64 o, .int .i64 s, .slice a l.length cap]⟩ 65 (0, 0)) :: O))) (fun (k, B) => k ≤ g.length ∧ B.ok 3 ((backI g t k).flatMap enV) (backI g t k).length) (fun (k, B) => g.length - k) ((0, Buf.nil)) _ (Wk.refl _ _) (rfl) ?_ ?_ ?_
      · repeat' (first | exact True.intro | refine And.intro ?_ ?_ | rfl | exact congrArg (Value.int _) (by omega) | exact congrArg (fun n => Value.slice _ n _) (by (try dsimp only); omega))
      · exact ⟨Nat.zero_le _, Buf.nil_ok 3⟩
      · rintro ⟨k, B⟩ d2 ⟨hk, hB⟩
        dsimp only at hk hB ⊢
        have hblk := hbl k
        by_cases hkl : k < g.length
        · obtain ⟨j, hj⟩ : ∃ j : Nat, (g.length : Int) - 1 - k = j := ⟨g.length - 1 - k, by omega⟩
          have hjj : g.length - 1 - k = j := by omega
          have hst : backI g t (k + 1) = (backI g t k ++ [g.getD ((j + t) % g.length) default]) ++ [g.getD j default] := by rw [← hjj]; rfl
          have hmod := Nat.mod_lt (j + t) (show 0 < g.length by omega)
          rw [hj]
          repeat' (conv => whnf
                   first
                   | (((with_reducible apply AppSt.litm (g := enV) (x := g.getD ((j + t) % g.length) default) (s := 3) (z := .agg ⟨[.int .i64 0, .int .i64 0, .string ⟨⟨[]⟩⟩]⟩)); (· (repeat (first | with_reducible exact Loc.hd | with_reducible exact Loc.last | with_reducible exact Loc.one | with_reducible apply Loc.tl | with_reducible apply Loc.skip))); (· exact hB); (· (repeat (first | exact List.Mem.head _ | with_reducible apply List.mem_append_right | with_reducible apply List.mem_cons_of_mem))); (· rfl); (· rfl); (· rfl); (· rfl); (· rfl); (· rfl); (· rfl); (· (show _ * 32 ≤ _; omega)); (· omega); intro C hC))
                   | (((with_reducible apply AppSt.litm (g := enV) (x := g.getD j default) (s := 3) (z := .agg ⟨[.int .i64 0, .int .i64 0, .string ⟨⟨[]⟩⟩]⟩)); (· (repeat (first | with_reducible exact Loc.hd | with_reducible exact Loc.last | with_reducible exact Loc.one | with_reducible apply Loc.tl | with_reducible apply Loc.skip))); (· exact hC); (· (repeat (first | exact List.Mem.head _ | with_reducible apply List.mem_append_right | with_reducible apply List.mem_cons_of_mem))); (· rfl); (· rfl); (· rfl); (· rfl); (· rfl); (· rfl); (· rfl); (· (show _ * 32 ≤ _; omega)); (· omega); intro D hD))
                   | ((with_reducible apply LoadSt.rdg (g := enV) (s := 3)); (· rfl); (· (repeat (first | with_reducible assumption | (with_reducible apply Buf.rd; with_reducible assumption) | (with_reducible apply Rd.appL; with_reducible assumption) | (with_reducible apply Rd.appL; with_reducible apply Buf.rd; with_reducible assumption) | with_reducible apply Rd.cons | with_reducible apply Rd.appR))); (· exact fun _ => rfl); (· decide); · (first | omega | (simp only [List.length_map, List.length_append, List.length_cons, List.length_nil, List.length_take, List.length_drop, List.length_replicate, List.length_set] at *; omega)))
                   | ((with_reducible apply IdxSl.bufm (s := 3)); (· with_reducible assumption); (· rfl); (· rfl); (· first | with_reducible rfl | exact natL _); · (first | omega | (simp only [List.length_map, List.length_append, List.length_cons, List.length_nil, List.length_take, List.length_drop, List.length_replicate, List.length_set] at *; omega)))
                   | (with_reducible refine NextSt.mk ?_)
                   | (with_reducible refine OnBB.tt ?_)
                   | ((with_reducible apply NW.addN); (· first | with_reducible rfl | exact natL _); (· first | with_reducible rfl | exact natL _); (· omega))
                   | ((with_reducible apply NW.i64N); (· first | with_reducible rfl | exact natL _); (· omega))
                   | ((with_reducible apply NW.i64); · omega)
                   | ((with_reducible apply Cmp.yes); · first | omega | (with_reducible assumption) | (with_reducible rfl))
                   | ((with_reducible refine AllocSt.mk ?_); intro _b _hb _hbO)
                   | ((with_reducible apply DivSt.remN); (· first | with_reducible rfl | exact natL _); (· first | with_reducible rfl | exact natL _); (· omega)))
          rw [← hst] at hD ⊢
          have hl2 : (backI g t (k + 1)).length = (backI g t k).length + 1 + 1 := by rw [hbl, hblk]; omega
          rw [← hl2] at hD
          refine RoundFix.mk ((k + 1, D)) ?_ ?_ _ rfl (Wk.drop (by (try dsimp only); (try simp only [List.cons_append, List.nil_append]); (repeat (first | with_reducible exact List.Sublist.refl _ | with_reducible exact List.nil_sublist _ | with_reducible apply List.Sublist.cons_cons | with_reducible apply sub_app | apply List.Sublist.cons_cons | apply sub_app | with_reducible apply List.Sublist.cons | with_reducible apply sub_skip)))) ?_
          · dsimp only; omega
          · repeat' (first | exact True.intro | refine And.intro ?_ ?_ | exact congrArg (fun n => Value.slice D.a n D.cap) hl2.symm | rfl | exact congrArg (Value.int _) (by omega) | exact congrArg (fun n => Value.slice _ n _) (by (try dsimp only); omega))
          · exact ⟨by omega, hD⟩
        · have : k = g.length := by omega
          subst this
          have hbw : ∀ e ∈ backI g t g.length, enW e := fun e he => hgw e ((backI_mem g t e).2 he)
          obtain ⟨bk, hbk⟩ : ∃ x, x = backI g t g.length := ⟨_, rfl⟩
          rw [← hbk] at hB hblk hK hbw ⊢
          obtain ⟨t1, t2, t3, ok0, ok1, fine1⟩ := hK
          have w1 := ok1.wf.flat
          repeat' (conv => whnf
                   first
                   | (with_reducible refine NextSt.mk ?_)
                   | (with_reducible refine OnBB.ff ?_)
                   | ((with_reducible apply Cmp.no); · first | omega | (with_reducible assumption))
                   | ((with_reducible apply LoadSt.boxAgg); · (repeat (first | exact List.Mem.head _ | with_reducible apply List.mem_append_right | with_reducible apply List.mem_cons_of_mem))))
          conv => whnf
          apply CallSt.new (e54 _); rintro _ _ ⟨r1, b1, hk1, rfl, rfl⟩
          repeat' (conv => whnf
                   first
                   | (with_reducible refine NextSt.mk ?_)
                   | ((with_reducible apply LoadSt.boxAgg); · (repeat (first | exact List.Mem.head _ | with_reducible apply List.mem_append_right | with_reducible apply List.mem_cons_of_mem))))
          conv => whnf
          apply CallSt.new (e54 _); rintro _ _ ⟨r2, b2, hk2, rfl, rfl⟩
          repeat' (conv => whnf
                   first
                   | (with_reducible refine NextSt.mk ?_)
                   | (with_reducible refine OnBB.ff ?_))
          conv => whnf
          with_reducible apply CallSt.locG (f := 55) (H := bH r1 S0.1 b1 S0.2) (G := A.hp 70 (g.flatMap enV)) (R := BR r1 b1 S1 (.tuple ⟨[iN n, .int .i64 0]⟩))
          · (repeat (first | with_reducible exact Loc.hd | with_reducible exact Loc.last | with_reducible exact Loc.one | with_reducible apply Loc.tl | with_reducible apply Loc.skip))
          · (repeat (first | with_reducible exact Loc.hd | with_reducible exact Loc.last | with_reducible exact Loc.one | with_reducible apply Loc.tl | with_reducible apply Loc.skip))
          · exact f55L r1 b1 S0 S1 20 n 0 g A.a A.cap _ hgw (by omega) ok0 (by decide) hk1 t1 _ (Buf.rd hA)
          rintro _ _ ⟨⟨p3, sb3, wb3⟩, ⟨q3, lp3, ls3⟩, hp3, hq3, hk3, rfl, rfl⟩
          obtain rfl : p3 = r1.p := hp3
          obtain rfl : q3 = b1.p := hq3
          repeat' (conv => whnf
                   first
                   | (with_reducible refine NextSt.mk ?_))
          conv => whnf
          with_reducible apply CallSt.locG (f := 55) (H := bH r2 S0.1 b2 S0.2) (G := B.hp 70 (bk.flatMap enV)) (R := BR r2 b2 S1 (.tuple ⟨[iN n, .int .i64 0]⟩))
          · (repeat (first | with_reducible exact Loc.hd | with_reducible exact Loc.last | with_reducible exact Loc.one | with_reducible apply Loc.tl | with_reducible apply Loc.skip))
          · (repeat (first | with_reducible exact Loc.hd | with_reducible exact Loc.last | with_reducible exact Loc.one | with_reducible apply Loc.tl | with_reducible apply Loc.skip))
          · exact f55L r2 b2 S0 S1 20 n 0 bk B.a B.cap _ hbw (by omega) ok0 (by decide) hk2 t2 _ (Buf.rd hB)
          rintro _ _ ⟨⟨p4, sb4, wb4⟩, ⟨q4, lp4, ls4⟩, hp4, hq4, hk4, rfl, rfl⟩
          obtain rfl : p4 = r2.p := hp4
          obtain rfl : q4 = b2.p := hq4
          repeat' (conv => whnf
                   first
                   | (((with_reducible apply Cmp.no); · exact fun h => h rfl))
                   | (with_reducible refine NextSt.mk ?_)
                   | (with_reducible refine OnBB.ff ?_))
          conv => whnf
          refine CallSt.rd (f := 56) (X := .bool true) (f56 ⟨r1.p, sb3, wb3⟩ ⟨r2.p, sb4, wb4⟩ ⟨b1.p, lp3, ls3⟩ ⟨b2.p, lp4, ls4⟩ S1 S1 _ (by (repeat (first | with_reducible exact Loc.hd | with_reducible exact Loc.last | with_reducible exact Loc.one | with_reducible apply Loc.tl | with_reducible apply Loc.skip))) (by (repeat (first | with_reducible exact Loc.hd | with_reducible exact Loc.last | with_reducible exact Loc.one | with_reducible apply Loc.tl | with_reducible apply Loc.skip))) ok1.wf ok1.wf hk3 hk4 rfl _) ?_
          repeat' (conv => whnf
                   first
                   | (with_reducible refine NextSt.mk ?_)
                   | (with_reducible refine OnBB.tt ?_)
                   | (with_reducible refine OnBB.ff ?_))
          conv => whnf
          apply CallSt.new (R := RowR S1.2.logs.flatten)
          · apply GSpec.locNew (H := bH ⟨r1.p, sb3, wb3⟩ S1.1 ⟨b1.p, lp3, ls3⟩ S1.2)
            · (repeat (first | with_reducible exact Loc.hd | with_reducible exact Loc.last | with_reducible exact Loc.one | with_reducible apply Loc.tl | with_reducible apply Loc.skip))
            · exact (f57 ⟨r1.p, sb3, wb3⟩ ⟨b1.p, lp3, ls3⟩ S1 ok1.wf hk3 _)
          rintro _ _ ⟨C, rfl, rfl, hC⟩
          repeat' (conv => whnf
                   first
                   | (with_reducible refine NextSt.mk ?_))
          conv => whnf
          with_reducible apply CallSt.locG (f := 55) (H := bH ⟨r1.p, sb3, wb3⟩ S1.1 ⟨b1.p, lp3, ls3⟩ S1.2) (G := A.hp 70 (g.flatMap enV)) (R := BR ⟨r1.p, sb3, wb3⟩ ⟨b1.p, lp3, ls3⟩ S1 (.tuple ⟨[iN 0, .int .i64 0]⟩))
          · (repeat (first | with_reducible exact Loc.hd | with_reducible exact Loc.last | with_reducible exact Loc.one | with_reducible apply Loc.tl | with_reducible apply Loc.skip))
          · (repeat (first | with_reducible exact Loc.hd | with_reducible exact Loc.last | with_reducible exact Loc.one | with_reducible apply Loc.tl | with_reducible apply Loc.skip))
          · exact f55L ⟨r1.p, sb3, wb3⟩ ⟨b1.p, lp3, ls3⟩ S1 S1 10580 0 0 g A.a A.cap _ hgw (by omega) ok1 (by decide) hk3 t3 _ (Buf.rd hA)
          rintro _ _ ⟨⟨p5, sb5, wb5⟩, ⟨q5, lp5, ls5⟩, hp5, hq5, hk5, rfl, rfl⟩
          obtain rfl : p5 = r1.p := hp5
          obtain rfl : q5 = b1.p := hq5
          repeat' (conv => whnf
                   first
                   | (with_reducible refine NextSt.mk ?_))
          conv => whnf
          apply CallSt.new (R := TyR S1.2.logs)
          · apply GSpec.locNew (H := bH ⟨r1.p, sb5, wb5⟩ S1.1 ⟨b1.p, lp5, ls5⟩ S1.2)
            · (repeat (first | with_reducible exact Loc.hd | with_reducible exact Loc.last | with_reducible exact Loc.one | with_reducible apply Loc.tl | with_reducible apply Loc.skip))
            · exact (f59 ⟨r1.p, sb5, wb5⟩ ⟨b1.p, lp5, ls5⟩ S1 ok1.wf hk5 _)
          rintro _ _ ⟨TA, TB, rfl, rfl, hTA, hTB⟩
          repeat' (conv => whnf
                   first
                   | fail)
          conv => whnf
          apply CallSt.new (R := fun v H => ∃ C : Buf, v = .tuple ⟨[.slice C.a 0 C.cap, .int .i64 0]⟩ ∧ H = C.hp 70 [] ∧ C.ok 3 [] 0)
          · apply GSpec.locGNew' (H := bH ⟨r1.p, sb5, wb5⟩ S1.1 ⟨b1.p, lp5, ls5⟩ S1.2) (G := TA.hp 3 ((S1.2.logs.map fun q => (q.length : Int)).map zV) ++ TB.hp 108 ((S1.2.logs.map sumL).map uN))
            · (repeat (first | with_reducible exact Loc.hd | with_reducible exact Loc.last | with_reducible exact Loc.one | with_reducible apply Loc.tl | with_reducible apply Loc.skip))
            · exact Gv.Loc.hd
            · exact f58L ⟨r1.p, sb5, wb5⟩ ⟨b1.p, lp5, ls5⟩ S1 TA TB ok1.wf hk5 _ hTA hTB
          rintro _ _ ⟨W, rfl, rfl, hW⟩
          repeat' (conv => whnf
                   first
                   | (((with_reducible apply Cmp.no); · exact fun h => h rfl))
                   | (with_reducible refine NextSt.mk ?_)
                   | (with_reducible refine OnBB.ff ?_))
          conv => whnf
          apply CallSt.new (R := RowR S1.2.logs.flatten)
          · apply GSpec.locNew (H := bH ⟨r1.p, sb5, wb5⟩ S1.1 ⟨b1.p, lp5, ls5⟩ S1.2)
            · (repeat (first | with_reducible exact Loc.hd | with_reducible exact Loc.last | with_reducible exact Loc.one | with_reducible apply Loc.tl | with_reducible apply Loc.skip))
            · exact (f57 ⟨r1.p, sb5, wb5⟩ ⟨b1.p, lp5, ls5⟩ S1 ok1.wf hk5 _)
          rintro _ _ ⟨E, rfl, rfl, hE⟩
          repeat' (conv => whnf
                   first
                   | (with_reducible refine OnBB.ff ?_))
          conv => whnf
          refine CallSt.rd (f := 60) (X := .bool true) ?_ ?_
          · rw [← decide_eq_true (rfl : S1.2.logs.flatten = S1.2.logs.flatten)]
            exact f60 S1.2.logs.flatten S1.2.logs.flatten _ _ _ _ (by omega) (by omega) w1.1 w1.1 _ _ (Rd.appL (Buf.rd hE)) (by (repeat (first | with_reducible assumption | (with_reducible apply Buf.rd; with_reducible assumption) | (with_reducible apply Rd.appL; with_reducible assumption) | (with_reducible apply Rd.appL; with_reducible apply Buf.rd; with_reducible assumption) | with_reducible apply Rd.cons | with_reducible apply Rd.appR)))
          repeat' (conv => whnf
                   first
                   | (with_reducible refine NextSt.mk ?_)
                   | (with_reducible refine OnBB.tt ?_)
                   | (with_reducible refine OnBB.ff ?_))
          conv => whnf
          obtain ⟨L, hL⟩ : ∃ x, x = S1.2.logs.flatten := ⟨_, rfl⟩
          rw [← hL] at hC w1 ⊢
          refine LoopSt.fix [6, 23, 141, 142, 143, 144, 145, 146, 147, 148, 149, 150, 151, 152, 153] (fun ((k, sb, wb, lp, ls) : Nat × Buf × Buf × Nat × List Lg) => [(23, iN k)]) (fun (k, sb, wb, lp, ls) => C.hp 70 (L.flatMap enV) ++ (bH ⟨r1.p, sb, wb⟩ S1.1 ⟨b1.p, lp, ls⟩ S1.2 ++ O)) (fun (k, sb, wb, lp, ls) => k ≤ L.length ∧ bOk ⟨r1.p, sb, wb⟩ S1.1 ⟨b1.p, lp, ls⟩ S1.2) (fun (k, _) => L.length - k) ((0, sb5, wb5, lp5, ls5)) _ (Wk.drop (by (try dsimp only); (try simp only [List.cons_append, List.nil_append]); (repeat (first | with_reducible exact List.Sublist.refl _ | with_reducible exact List.nil_sublist _ | with_reducible apply List.Sublist.cons_cons | with_reducible apply sub_app | apply List.Sublist.cons_cons | apply sub_app | with_reducible apply List.Sublist.cons | with_reducible apply sub_skip)))) (rfl) ?_ ?_ ?_
          · repeat' (first | exact True.intro | refine And.intro ?_ ?_ | rfl | exact congrArg (Value.int _) (by omega) | exact congrArg (fun n => Value.slice _ n _) (by (try dsimp only); omega))
          · exact ⟨Nat.zero_le _, hk5⟩
          · rintro ⟨k, sb, wb, lp, ls⟩ d3 ⟨hkL, hkk⟩
            dsimp only at hkL hkk ⊢
            by_cases hkl : k < L.length
            · have hem := getD_mem' (d := default) hkl
              have hew := w1.1 _ hem
              have hadd := addV_there fine1 ok1.wf (e := L.getD k default) (by rw [← hL]; exact hem)
              have e61 := f61 ⟨r1.p, sb, wb⟩ ⟨b1.p, lp, ls⟩ S1 10580 (L.getD k default) hew ok1 (by decide) hkk h
              rw [hadd] at e61
              repeat' (conv => whnf
                       first
                       | ((with_reducible apply LoadSt.rdg (g := enV) (s := 3)); (· rfl); (· (repeat (first | with_reducible assumption | (with_reducible apply Buf.rd; with_reducible assumption) | (with_reducible apply Rd.appL; with_reducible assumption) | (with_reducible apply Rd.appL; with_reducible apply Buf.rd; with_reducible assumption) | with_reducible apply Rd.cons | with_reducible apply Rd.appR))); (· exact fun _ => rfl); (· decide); · (first | omega | (simp only [List.length_map, List.length_append, List.length_cons, List.length_nil, List.length_take, List.length_drop, List.length_replicate, List.length_set] at *; omega)))
                       | ((with_reducible apply IdxSl.bufm (s := 3)); (· with_reducible assumption); (· rfl); (· rfl); (· first | with_reducible rfl | exact natL _); · (first | omega | (simp only [List.length_map, List.length_append, List.length_cons, List.length_nil, List.length_take, List.length_drop, List.length_replicate, List.length_set] at *; omega)))
                       | (with_reducible refine NextSt.mk ?_)
                       | (with_reducible refine OnBB.tt ?_)
                       | ((with_reducible apply Cmp.yes); · first | omega | (with_reducible assumption) | (with_reducible rfl)))
              conv => whnf
              with_reducible apply CallSt.loc (f := 61) (H := bH ⟨r1.p, sb, wb⟩ S1.1 ⟨b1.p, lp, ls⟩ S1.2) (R := BR ⟨r1.p, sb, wb⟩ ⟨b1.p, lp, ls⟩ S1 (.int .i64 0))
              · (repeat (first | with_reducible exact Loc.hd | with_reducible exact Loc.last | with_reducible exact Loc.one | with_reducible apply Loc.tl | with_reducible apply Loc.skip))
              · exact e61
              rintro _ _ ⟨⟨p6, sb6, wb6⟩, ⟨q6, lp6, ls6⟩, hp6, hq6, hk6, rfl, rfl⟩
              obtain rfl : p6 = r1.p := hp6
              obtain rfl : q6 = b1.p := hq6
              repeat' (conv => whnf
                       first
                       | (((with_reducible apply Cmp.no); · exact fun h => h rfl))
                       | (with_reducible refine NextSt.mk ?_)
                       | (with_reducible refine OnBB.ff ?_)
                       | ((with_reducible apply NW.addN); (· first | with_reducible rfl | exact natL _); (· first | with_reducible rfl | exact natL _); (· omega)))
              refine RoundFix.mk ((k + 1, sb6, wb6, lp6, ls6)) ?_ ?_ _ rfl (Wk.drop (by (try dsimp only); (try simp only [List.cons_append, List.nil_append]); (repeat (first | with_reducible exact List.Sublist.refl _ | with_reducible exact List.nil_sublist _ | with_reducible apply List.Sublist.cons_cons | with_reducible apply sub_app | apply List.Sublist.cons_cons | apply sub_app | with_reducible apply List.Sublist.cons | with_reducible apply sub_skip)))) ?_
              · dsimp only; omega
              · repeat' (first | exact True.intro | refine And.intro ?_ ?_ | rfl | exact congrArg (Value.int _) (by omega) | exact congrArg (fun n => Value.slice _ n _) (by (try dsimp only); omega))
              · exact ⟨by omega, hk6⟩
            · repeat' (conv => whnf
                       first
                       | (with_reducible refine NextSt.mk ?_)
                       | (with_reducible refine OnBB.ff ?_)
                       | ((with_reducible apply Cmp.no); · first | omega | (with_reducible assumption)))
              conv => whnf
              have e57 := f57 ⟨r1.p, sb, wb⟩ ⟨b1.p, lp, ls⟩ S1 ok1.wf hkk h
              rw [← hL] at e57
              apply CallSt.new (R := RowR L)
              · apply GSpec.locNew (H := bH ⟨r1.p, sb, wb⟩ S1.1 ⟨b1.p, lp, ls⟩ S1.2)
                · (repeat (first | with_reducible exact Loc.hd | with_reducible exact Loc.last | with_reducible exact Loc.one | with_reducible apply Loc.tl | with_reducible apply Loc.skip))
                · exact e57
              rintro _ _ ⟨E, rfl, rfl, hE⟩
              repeat' (conv => whnf
                       first
                       | fail)
              conv => whnf
              refine CallSt.rd (f := 60) (X := .bool true) ?_ ?_
              · rw [← decide_eq_true (rfl : L = L)]
                exact f60 L L _ _ _ _ (by omega) (by omega) w1.1 w1.1 _ _ (Rd.appL (Buf.rd hE)) (by (repeat (first | with_reducible assumption | (with_reducible apply Buf.rd; with_reducible assumption) | (with_reducible apply Rd.appL; with_reducible assumption) | (with_reducible apply Rd.appL; with_reducible apply Buf.rd; with_reducible assumption) | with_reducible apply Rd.cons | with_reducible apply Rd.appR)))
              repeat' (conv => whnf
                       first
                       | (with_reducible refine NextSt.mk ?_))
              conv => whnf
              refine FinSt.ret (by (try dsimp only); (try simp only [List.cons_append, List.nil_append]); (repeat (first | with_reducible exact List.Sublist.refl _ | with_reducible exact List.nil_sublist _ | with_reducible apply List.Sublist.cons_cons | with_reducible apply sub_app | apply List.Sublist.cons_cons | apply sub_app | with_reducible apply List.Sublist.cons | with_reducible apply sub_skip))) ?_
              rfl
    · refine GSpec.enter (fn := Try.f8) Try.func8 rfl (by kernel_rfl) ?_
      repeat' (conv => whnf
               first
               | ((with_reducible refine CallSt.rd (f := 17) (X := .bool true) ?_ ?_); (· exact f17 _ _))
               | ((with_reducible refine CallSt.rd (f := 52) (X := .bool true) ?_ ?_); (· exact e52 _ (Rd.cons h1)))
               | (with_reducible refine NextSt.mk ?_)
               | (with_reducible refine OnBB.tt ?_)
               | (with_reducible refine OnBB.ff ?_)
               | ((with_reducible apply Cmp.yes); · first | omega | (with_reducible assumption) | (with_reducible rfl))
               | ((with_reducible apply LoadSt.boxAgg); · (repeat (first | exact List.Mem.head _ | with_reducible apply List.mem_append_right | with_reducible apply List.mem_cons_of_mem)))
               | ((with_reducible refine AllocSt.mk ?_); intro _b _hb _hbO))
      conv => whnf
      refine FinSt.ret (by (try dsimp only); (try simp only [List.cons_append, List.nil_append]); (repeat (first | with_reducible exact List.Sublist.refl _ | with_reducible exact List.nil_sublist _ | with_reducible apply List.Sublist.cons_cons | with_reducible apply sub_app | apply List.Sublist.cons_cons | apply sub_app | with_reducible apply List.Sublist.cons | with_reducible apply sub_skip))) ?_
      rfl
  · rw [decide_eq_false hf] at e52
    refine GSpec.enter (fn := Try.f8) Try.func8 rfl (by kernel_rfl) ?_
    repeat' (conv => whnf
             first
             | ((with_reducible refine CallSt.rd (f := 17) (X := .bool true) ?_ ?_); (· exact f17 _ _))
             | ((with_reducible refine CallSt.rd (f := 52) (X := .bool false) ?_ ?_); (· exact e52 _ (Rd.cons h1)))
             | (with_reducible refine NextSt.mk ?_)
             | (with_reducible refine OnBB.tt ?_)
             | (with_reducible refine OnBB.ff ?_)
             | ((with_reducible apply LoadSt.boxAgg); · (repeat (first | exact List.Mem.head _ | with_reducible apply List.mem_append_right | with_reducible apply List.mem_cons_of_mem)))
             | ((with_reducible refine AllocSt.mk ?_); intro _b _hb _hbO))
    conv => whnf
    refine FinSt.ret (by (try dsimp only); (try simp only [List.cons_append, List.nil_append]); (repeat (first | with_reducible exact List.Sublist.refl _ | with_reducible exact List.nil_sublist _ | with_reducible apply List.Sublist.cons_cons | with_reducible apply sub_app | apply List.Sublist.cons_cons | apply sub_app | with_reducible apply List.Sublist.cons | with_reducible apply sub_skip))) ?_
    rfl
end Go.Proofs.Ytlbmlimaobkhpaa
/- What worlds, lists of messages and of indices read as. -/
namespace Go.Proofs.Ytlbmlimaobkhpaa
open Go Go.Gv
set_option maxRecDepth 100000
theorem u63 : Try.prog.underlying 63 = some (.slice 70) := by kernel_rfl
theorem u66 : Try.prog.underlying 66 = some (.slice 3) := by kernel_rfl
theorem u65 : Try.prog.underlying 65 = some (.struct #[⟨ "Offices", 3, 0, false, "", "", 0⟩, ⟨ "Sectors", 3, 1, false, "", "", 8⟩, ⟨ "Items", 63, 2, false, "", "", 16⟩]) := by kernel_rfl
theorem u70 : Try.prog.underlying 70 = some (.struct #[⟨ "Office", 3, 0, false, "", "", 0⟩, ⟨ "No", 3, 1, false, "", "", 8⟩, ⟨ "Body", 9, 2, false, "", "", 16⟩]) := by kernel_rfl
theorem c70 : Try.prog.cellsOf 70 = 3 := by kernel_rfl
theorem c3 : Try.prog.cellsOf 3 = 1 := by kernel_rfl
theorem dEs (W : World) : DecT Try.prog W 63 (Sl.cells (α := En)) (SlOk Try.prog W enV (fun e => (i64 e.office ∧ i64 e.no) ∧ e.body.length ≤ 9223372036854775807)) :=
  dec_slice u63 c70 (by decide) (fun _ => rfl) ((dec_struct u70 (by decide +kernel) (by kernel_rfl) (decFs_cons (dec_i64 u3) (decFs_cons (dec_i64 u3) (decFs_cons (dec_str u9) decFs_nil)))).map
    (fun p => (⟨p.1, p.2.1, p.2.2.1⟩ : En)) (fun _ => rfl) fun _ h => ⟨⟨h.1, h.2.1⟩, maxI h.2.2.1⟩)
/-- A world, as it is handed over. -/
structure Wz where
  o : Int
  s : Int
  z : Sl En
theorem dWd (W : World) : DecT Try.prog W 65 (fun w : Wz => [.int .i64 w.o, .int .i64 w.s, .slice w.z.a w.z.l.length w.z.cap]) (fun w => (i64 w.o ∧ i64 w.s) ∧ SlOk Try.prog W enV (fun e => (i64 e.office ∧ i64 e.no) ∧ e.body.length ≤ 9223372036854775807) w.z) :=
  (dec_struct u65 (by decide +kernel) (by kernel_rfl) (decFs_cons (dec_i64 u3) (decFs_cons (dec_i64 u3) (decFs_cons (dEs W) decFs_nil)))).map
    (fun p => (⟨p.1, p.2.1, p.2.2.1⟩ : Wz)) (fun _ => rfl) fun _ h => ⟨⟨h.1, h.2.1⟩, h.2.2.1⟩
theorem dIs (W : World) : DecT Try.prog W 66 (Sl.cells (α := Int)) (SlOk Try.prog W (fun n => [zV n]) i64) := dec_slice u66 c3 (by decide) (fun _ => rfl) (dec_i64 u3)
end Go.Proofs.Ytlbmlimaobkhpaa
