/- RadioCrash: the walk. -/
import Derived.Test.YtlbmlimaobkhpaaOb
import Derived.Test.YtlbmlimaobkhpaaOf
import Derived.Test.YtlbmlimaobkhpaaKc
import Derived.Test.YtlbmlimaobkhpaaEa
set_option linter.unusedVariables false
set_option linter.unusedSimpArgs false
set_option linter.unusedSectionVars false
/- RadioCrash: the walk. -/
namespace Go.Proofs.Ytlbmlimaobkhpaa
open Go Go.Gv
set_option maxRecDepth 100000
set_option maxHeartbeats 32000000
set_option linter.unusedSimpArgs false
set_option linter.unusedVariables false
theorem cond_step {P : Program} {c : Nat} {a b : Code} {s : List Value} {h : View} {O : Hp} {K : Exit → List Value → View → Hp → Prop} {v : Value} (hv : getS s c = v) (hk : OnB v fun t => match t with | true => codeK P a s h O K | false => codeK P b s h O K) : codeK P (.cond (.tmp c) a b) s h O K := by
  show evK s (.tmp c) _
  rw [evK_eq]
  show OnB (getS s c) _
  rw [hv]; exact hk
theorem f11 (o s : Int) (a : Option Addr) (cap : Nat) (l : List En) (at_ : List Int) (a2 : Option Addr) (c2 : Nat) (arm n : Int) (keep : Str) (hn : n ≤ 9223372036854775807) (hkl : keep.length ≤ 9223372036854775807) (hl : l.length ≤ 9223372036854775807)
    (hb : ∀ e ∈ l, (i64 e.office ∧ i64 e.no) ∧ e.body.length ≤ 9223372036854775807) (hal : at_.length ≤ 9223372036854775807) (h : View) (O : Hp) (h1 : Rd h O a (l.flatMap enV)) (h2 : Rd h O a2 (at_.map zV)) :
    GSpec Try.prog 11 [.agg ⟨[.int .i64 o, .int .i64 s, .slice a l.length cap]⟩, .slice a2 at_.length c2, .int .i64 arm, .int .i64 n, sV keep] h O (Ret O (.bool true)) := by
  have e52 : ∀ O, Rd h O a (l.flatMap enV) → GSpec Try.prog 52 [.agg ⟨[.int .i64 o, .int .i64 s, .slice a l.length cap]⟩] h O (Ret O (.bool (decide (Wd.few ⟨o, s, a, cap, l⟩)))) := fun O hr => f52 ⟨o, s, a, cap, l⟩ hl (fun e he => (hb e he).2) h O hr
  by_cases hf : Wd.few ⟨o, s, a, cap, l⟩
  · rw [decide_eq_true hf] at e52
    by_cases h30 : at_.length ≤ 30
    · obtain ⟨⟨hf1, hf2, hf3, hf4, hf5⟩, hf6⟩ := hf
      simp only at hf1 hf2 hf3 hf4 hf5 hf6
      obtain ⟨o, rfl⟩ := nat_of (show 0 ≤ o by omega)
      obtain ⟨s, rfl⟩ := nat_of (show 0 ≤ s by omega)
      have e53 : ∀ O, Rd h O a (l.flatMap enV) → Rd h O a2 (at_.map zV) → GSpec Try.prog 53 [.agg ⟨[.int .i64 o, .int .i64 s, .slice a l.length cap]⟩, .slice a2 at_.length c2] h O (New O (RowR (pickV l at_))) := fun O hr hr2 => f53 ⟨o, s, a, cap, l⟩ at_ a2 c2 (by omega) hl h O hr hr2
      have hgl := pickV_len (items := l) at_
      have hgw : ∀ e ∈ pickV l at_, enW e := fun e he => by
        have h3 := hb e (pickV_subs he)
        have h4 := hf6 e (pickV_subs he)
        exact ⟨h3.1.1, h3.1.2, by omega⟩
      generalize pickV l at_ = g at *
      have hup := Up.new (o := o) (by omega)
      have hmk := new0_make (n := 4096) (o := o) (by decide) (by omega)
      have hlo : (new0 4096 o).2.logs = List.replicate o [] := rfl
      generalize new0 4096 o = S0 at *
      have hCr := Cra.new (N := s) (o := o) n (by omega) (by omega)
      have hmkA := new0_make (n := s) (o := o) (by omega) (by omega)
      have hloA : (new0 s o).2.logs = List.replicate o [] := rfl
      generalize new0 s o = A0 at *
      have e54 : ∀ O, GSpec Try.prog 54 [.agg ⟨[.int .i64 o, .int .i64 s, .slice a l.length cap]⟩, .int .i64 4096] h O (New O (MadeB S0.1 S0.2)) := fun O => f54 ⟨o, s, a, cap, l⟩ 4096 S0.1 S0.2 ⟨by decide, by decide⟩ hmk h O
      have e54A : ∀ O, GSpec Try.prog 54 [.agg ⟨[.int .i64 o, .int .i64 s, .slice a l.length cap]⟩, .int .i64 s] h O (New O (MadeB A0.1 A0.2)) := fun O => f54 ⟨o, s, a, cap, l⟩ s A0.1 A0.2 (by omega) hmkA h O
      refine GSpec.enter (fn := Try.f11) Try.func11 rfl (by kernel_rfl) ?_
      repeat' (conv => whnf
               first
               | ((with_reducible refine CallSt.rd (f := 17) (X := .bool true) ?_ ?_); (· exact f17 _ _))
               | ((with_reducible refine CallSt.rd (f := 52) (X := .bool true) ?_ ?_); (· exact e52 _ (Rd.cons h1)))
               | (with_reducible refine NextSt.mk ?_)
               | (with_reducible refine OnBB.tt ?_)
               | (with_reducible refine OnBB.ff ?_)
               | ((with_reducible apply Cmp.no); · first | omega | (with_reducible assumption))
               | ((with_reducible apply LoadSt.box); · (repeat (first | exact List.Mem.head _ | with_reducible apply List.mem_append_right | with_reducible apply List.mem_cons_of_mem)))
               | ((with_reducible apply LoadSt.boxAgg); · (repeat (first | exact List.Mem.head _ | with_reducible apply List.mem_append_right | with_reducible apply List.mem_cons_of_mem)))
               | ((with_reducible refine AllocSt.mk ?_); intro _b _hb _hbO))
      conv => whnf
      apply CallSt.new (e54A _); rintro _ _ ⟨⟨pA, sbA, wbA⟩, ⟨qA, lpA, lsA⟩, hkA, rfl, rfl⟩
      repeat' (conv => whnf
               first
               | (with_reducible refine NextSt.mk ?_)
               | ((with_reducible apply LoadSt.boxAgg); · (repeat (first | exact List.Mem.head _ | with_reducible apply List.mem_append_right | with_reducible apply List.mem_cons_of_mem))))
      conv => whnf
      apply CallSt.new (e54 _); rintro _ _ ⟨⟨pB, sbB, wbB⟩, ⟨qB, lpB, lsB⟩, hkB, rfl, rfl⟩
      repeat' (conv => whnf
               first
               | (with_reducible refine NextSt.mk ?_)
               | ((with_reducible apply LoadSt.boxAgg); · (repeat (first | exact List.Mem.head _ | with_reducible apply List.mem_append_right | with_reducible apply List.mem_cons_of_mem))))
      conv => whnf
      apply CallSt.new (e54 _); rintro _ _ ⟨⟨pF, sbF, wbF⟩, ⟨qF, lpF, lsF⟩, hkF, rfl, rfl⟩
      repeat' (conv => whnf
               first
               | (with_reducible refine NextSt.mk ?_)
               | (with_reducible refine OnBB.ff ?_)
               | ((with_reducible apply LoadSt.boxAgg); · (repeat (first | exact List.Mem.head _ | with_reducible apply List.mem_append_right | with_reducible apply List.mem_cons_of_mem))))
      conv => whnf
      apply CallSt.new (e53 _ (Rd.appR (Rd.appR (Rd.appR (Rd.cons h1)))) (Rd.appR (Rd.appR (Rd.appR (Rd.cons h2))))); rintro _ _ ⟨G, rfl, rfl, hG⟩
      repeat' (conv => whnf
               first
               | (with_reducible refine NextSt.mk ?_))
      conv => whnf
      obtain ⟨bx, hbx⟩ : ∃ x, x = _b := ⟨_, rfl⟩
      subst hbx
      refine LoopSt.fix [10, 18, 19, 20, 21, 22, 23, 24, 25, 26, 27, 70, 71, 72, 73, 74, 75, 76, 77, 78, 79, 80, 81, 82, 83, 84, 85, 86, 87, 88, 89, 90, 91, 92, 93, 94, 95, 96, 97, 98, 99, 100, 101, 102, 103, 104, 105, 106, 107, 108, 109, 110, 111, 112, 113, 114, 115, 116, 117, 118, 119, 120, 121, 122, 123, 124, 125, 126, 127, 128, 129, 130, 131, 132, 133, 134, 135, 136, 137, 138, 139, 140, 141, 142, 143, 144, 145, 146, 147, 148, 149, 150, 151, 152, 153, 154, 155, 156, 157, 158, 159, 160, 161, 162, 163, 164, 165, 166, 167, 168, 169] (fun ((k, _) : Nat × DB × DB × DB × Buf × Buf × Nat × List Lg × Buf × Buf × Nat × List Lg × Buf × Buf × Nat × List Lg) => [(18, iN k)]) (fun (k, SA, SB, SF, sbA, wbA, lpA, lsA, sbB, wbB, lpB, lsB, sbF, wbF, lpF, lsF) => G.hp 70 (g.flatMap enV) ++ (bH ⟨pF, sbF, wbF⟩ SF.1 ⟨qF, lpF, lsF⟩ SF.2 ++ (bH ⟨pB, sbB, wbB⟩ SB.1 ⟨qB, lpB, lsB⟩ SB.2 ++ (bH ⟨pA, sbA, wbA⟩ SA.1 ⟨qA, lpA, lsA⟩ SA.2 ++ ((bx, .cells ⟨[.int .i64 o, .int .i64 s, .slice a l.length cap]⟩ 65 (0, 0)) :: O))))) (fun (k, SA, SB, SF, sbA, wbA, lpA, lsA, sbB, wbB, lpB, lsB, sbF, wbF, lpF, lsF) => k ≤ g.length ∧ Cra o k n SA ∧ Up k SB ∧ Up k SF ∧ SB.2.logs = SA.2.logs ∧ SF.2.logs = SA.2.logs ∧ bOk ⟨pA, sbA, wbA⟩ SA.1 ⟨qA, lpA, lsA⟩ SA.2 ∧ bOk ⟨pB, sbB, wbB⟩ SB.1 ⟨qB, lpB, lsB⟩ SB.2 ∧ bOk ⟨pF, sbF, wbF⟩ SF.1 ⟨qF, lpF, lsF⟩ SF.2) (fun (k, _) => g.length - k) ((0, A0, S0, S0, sbA, wbA, lpA, lsA, sbB, wbB, lpB, lsB, sbF, wbF, lpF, lsF)) _ (Wk.refl _ _) (rfl) ?_ ?_ ?_
      · repeat' (first | exact True.intro | refine And.intro ?_ ?_ | rfl | exact congrArg (Value.int _) (by omega) | exact congrArg (fun n => Value.slice _ n _) (by (try dsimp only); omega))
      · exact ⟨Nat.zero_le _, hCr, hup, hup, hlo.trans hloA.symm, hlo.trans hloA.symm, hkA, hkB, hkF⟩
      · clear hkA hkB hkF
        rintro ⟨k, SA, SB, SF, sbA, wbA, lpA, lsA, sbB, wbB, lpB, lsB, sbF, wbF, lpF, lsF⟩ d2 ⟨hk, hC, hB, hF, hlB, hlF, hkA, hkB, hkF⟩
        dsimp only at hk hC hB hF hlB hlF hkA hkB hkF ⊢
        by_cases hkl2 : k < g.length
        · have hem := getD_mem' (d := default) hkl2
          have hew := hgw _ hem
          by_cases harm : (k : Int) = arm
          · repeat' (conv => whnf
                     first
                     | (with_reducible refine NextSt.mk ?_)
                     | (with_reducible refine OnBB.tt ?_)
                     | ((with_reducible apply Cmp.yes); · first | omega | (with_reducible assumption) | (with_reducible rfl)))
            conv => whnf
            with_reducible apply CallSt.loc (f := 43) (H := dHp ⟨pA, sbA, wbA⟩ SA.1) (R := DR ⟨pA, sbA, wbA⟩ (SA.1.arm n) noV)
            · repeat (first | with_reducible exact Gv.Loc.hd | with_reducible exact Loc.left Gv.Loc.hd | with_reducible exact Loc.left (Loc.skip Gv.Loc.last) | with_reducible apply Gv.Loc.tl | with_reducible apply Gv.Loc.skip)
            · exact f43 ⟨pA, sbA, wbA⟩ SA.1 n hkA.d _
            rintro _ _ ⟨⟨p4, sb4, wb4⟩, hp4, rfl, hk4, rfl⟩
            obtain rfl : pA = p4 := hp4.symm
            have hC2 := hC.arm hn
            have hkA2 : bOk ⟨pA, sb4, wb4⟩ (SA.1.arm n) ⟨qA, lpA, lsA⟩ SA.2 := ⟨hk4, hkA.logs, hkA.ls⟩
            obtain ⟨S2, hS2⟩ : ∃ x : DB, x = (SA.1.arm n, SA.2) := ⟨_, rfl⟩
            have e1 : SA.1.arm n = S2.1 := by rw [hS2]
            have e2 : SA.2 = S2.2 := by rw [hS2]
            rw [← hS2] at hC2
            rw [e1, e2] at hkA2
            rw [e2] at hlB hlF
            rw [e1, e2]
            clear hkA hC
            rcases hC2.take hF (by omega) hlF (g.getD k default) with ⟨T, Tf, m, t1, t2, hT, hTf, hTl⟩ | ⟨Tf, m, t1, t2, hTf⟩ | ⟨T, Tf, m, t1, t2, hTf, hn0, hT2, hTo, hcr⟩
            · obtain ⟨Tb, t3, hTb, hTbl⟩ := hB.same hF (by omega) (hlB.trans hlF.symm) t2
              repeat' (conv => whnf
                       first
                       | (((apply SlSl.three (l := k) (r := k + 1) (m := k + 1)); (· rfl); (· rfl); (· rfl); (· omega); (· omega); (· have := Buf.le hG; omega)); rw [Nat.add_sub_cancel_left])
                       | (with_reducible refine NextSt.mk ?_)
                       | ((with_reducible apply NW.addN); (· first | with_reducible rfl | exact natL _); (· first | with_reducible rfl | exact natL _); (· omega)))
              conv => whnf
              with_reducible apply CallSt.locG (f := 55) (H := bH ⟨pF, sbF, wbF⟩ SF.1 ⟨qF, lpF, lsF⟩ SF.2) (G := G.hp 70 (g.flatMap enV)) (R := BR ⟨pF, sbF, wbF⟩ ⟨qF, lpF, lsF⟩ Tf (.tuple ⟨[iN m, .int .i64 0]⟩))
              · (repeat (first | with_reducible exact Loc.hd | with_reducible exact Loc.last | with_reducible exact Loc.one | with_reducible apply Loc.tl | with_reducible apply Loc.skip))
              · (repeat (first | with_reducible exact Loc.hd | with_reducible exact Loc.last | with_reducible exact Loc.one | with_reducible apply Loc.tl | with_reducible apply Loc.skip))
              · exact f55L ⟨pF, sbF, wbF⟩ ⟨qF, lpF, lsF⟩ SF Tf (20 + 10560 * k) m 0 [g.getD k default] _ 1 _ (fun e he => by rw [List.mem_singleton.1 he]; exact hew) (by show 1 < 1000000; decide) hF.ok (by omega) hkF t2 _ (one_rd hkl2 (Buf.rd hG))
              rintro _ _ ⟨⟨p6, sb6, wb6⟩, ⟨q6, lp6, ls6⟩, hp6, hq6, hk6, rfl, rfl⟩
              obtain rfl : pF = p6 := hp6.symm
              obtain rfl : qF = q6 := hq6.symm
              repeat' (conv => whnf
                       first
                       | (with_reducible refine NextSt.mk ?_))
              conv => whnf
              with_reducible apply CallSt.locG (f := 55) (H := bH ⟨pA, sb4, wb4⟩ S2.1 ⟨qA, lpA, lsA⟩ S2.2) (G := G.hp 70 (g.flatMap enV)) (R := BR ⟨pA, sb4, wb4⟩ ⟨qA, lpA, lsA⟩ T (.tuple ⟨[iN m, .int .i64 0]⟩))
              · (repeat (first | with_reducible exact Loc.hd | with_reducible exact Loc.last | with_reducible exact Loc.one | with_reducible apply Loc.tl | with_reducible apply Loc.skip))
              · (repeat (first | with_reducible exact Loc.hd | with_reducible exact Loc.last | with_reducible exact Loc.one | with_reducible apply Loc.tl | with_reducible apply Loc.skip))
              · exact f55L ⟨pA, sb4, wb4⟩ ⟨qA, lpA, lsA⟩ S2 T (20 + 20 * k) m 0 [g.getD k default] _ 1 _ (fun e he => by rw [List.mem_singleton.1 he]; exact hew) (by show 1 < 1000000; decide) hC2.ok (by omega) hkA2 t1 _ (one_rd hkl2 (Buf.rd hG))
              rintro _ _ ⟨⟨p7, sb7, wb7⟩, ⟨q7, lp7, ls7⟩, hp7, hq7, hk7, rfl, rfl⟩
              obtain rfl : pA = p7 := hp7.symm
              obtain rfl : qA = q7 := hq7.symm
              repeat' (conv => whnf
                       first
                       | (((with_reducible apply Cmp.no); · exact fun h => h rfl))
                       | (with_reducible refine NextSt.mk ?_)
                       | (with_reducible refine OnBB.ff ?_)
                       | ((with_reducible apply Cmp.no); · first | omega | (with_reducible assumption)))
              conv => whnf
              with_reducible apply CallSt.locG (f := 55) (H := bH ⟨pB, sbB, wbB⟩ SB.1 ⟨qB, lpB, lsB⟩ SB.2) (G := G.hp 70 (g.flatMap enV)) (R := BR ⟨pB, sbB, wbB⟩ ⟨qB, lpB, lsB⟩ Tb (.tuple ⟨[iN m, .int .i64 0]⟩))
              · (repeat (first | with_reducible exact Loc.hd | with_reducible exact Loc.last | with_reducible exact Loc.one | with_reducible apply Loc.tl | with_reducible apply Loc.skip))
              · (repeat (first | with_reducible exact Loc.hd | with_reducible exact Loc.last | with_reducible exact Loc.one | with_reducible apply Loc.tl | with_reducible apply Loc.skip))
              · exact f55L ⟨pB, sbB, wbB⟩ ⟨qB, lpB, lsB⟩ SB Tb (20 + 10560 * k) m 0 [g.getD k default] _ 1 _ (fun e he => by rw [List.mem_singleton.1 he]; exact hew) (by show 1 < 1000000; decide) hB.ok (by omega) hkB t3 _ (one_rd hkl2 (Buf.rd hG))
              rintro _ _ ⟨⟨p8, sb8, wb8⟩, ⟨q8, lp8, ls8⟩, hp8, hq8, hk8, rfl, rfl⟩
              obtain rfl : pB = p8 := hp8.symm
              obtain rfl : qB = q8 := hq8.symm
              repeat' (conv => whnf
                       first
                       | (((with_reducible apply Cmp.no); · exact fun h => h rfl))
                       | (with_reducible refine NextSt.mk ?_)
                       | (with_reducible refine OnBB.ff ?_))
              conv => whnf
              apply CallSt.rd (f := 56) (X := .bool true)
              · rw [← decide_eq_true hTl.symm]
                apply f56k pA pF ⟨qA, lp7, ls7⟩ ⟨qF, lp6, ls6⟩ T.2 Tf.2
                · repeat (first | with_reducible exact Gv.Loc.hd | with_reducible exact Loc.left Gv.Loc.hd | with_reducible exact Loc.left (Loc.skip Gv.Loc.last) | with_reducible apply Gv.Loc.tl | with_reducible apply Gv.Loc.skip)
                · repeat (first | with_reducible exact Gv.Loc.hd | with_reducible exact Loc.left Gv.Loc.hd | with_reducible exact Loc.left (Loc.skip Gv.Loc.last) | with_reducible apply Gv.Loc.tl | with_reducible apply Gv.Loc.skip)
                · exact hT.ok.wf
                · exact hTf.ok.wf
                · exact hk7.k
                · exact hk6.k
              repeat' (conv => whnf
                       first
                       | (with_reducible refine NextSt.mk ?_)
                       | (with_reducible refine OnBB.tt ?_)
                       | (with_reducible refine OnBB.ff ?_)
                       | ((with_reducible apply NW.addN); (· first | with_reducible rfl | exact natL _); (· first | with_reducible rfl | exact natL _); (· omega)))
              refine RoundFix.mk ((k + 1, T, Tb, Tf, sb7, wb7, lp7, ls7, sb8, wb8, lp8, ls8, sb6, wb6, lp6, ls6)) ?_ ?_ _ rfl (Wk.drop (by (try dsimp only); (try simp only [List.cons_append, List.nil_append]); (repeat (first | with_reducible exact List.Sublist.refl _ | with_reducible exact List.nil_sublist _ | with_reducible apply List.Sublist.cons_cons | with_reducible apply sub_app | apply List.Sublist.cons_cons | apply sub_app | with_reducible apply List.Sublist.cons | with_reducible apply sub_skip)))) ?_
              · dsimp only; omega
              · repeat' (first | exact True.intro | refine And.intro ?_ ?_ | rfl | exact congrArg (Value.int _) (by omega) | exact congrArg (fun n => Value.slice _ n _) (by (try dsimp only); omega))
              · exact ⟨by omega, hT, hTb, hTf, hTbl.trans hTl, hTl, hk7, hk8, hk6⟩
            · repeat' (conv => whnf
                       first
                       | (((apply SlSl.three (l := k) (r := k + 1) (m := k + 1)); (· rfl); (· rfl); (· rfl); (· omega); (· omega); (· have := Buf.le hG; omega)); rw [Nat.add_sub_cancel_left])
                       | (with_reducible refine NextSt.mk ?_)
                       | ((with_reducible apply NW.addN); (· first | with_reducible rfl | exact natL _); (· first | with_reducible rfl | exact natL _); (· omega)))
              conv => whnf
              with_reducible apply CallSt.locG (f := 55) (H := bH ⟨pF, sbF, wbF⟩ SF.1 ⟨qF, lpF, lsF⟩ SF.2) (G := G.hp 70 (g.flatMap enV)) (R := BR ⟨pF, sbF, wbF⟩ ⟨qF, lpF, lsF⟩ Tf (.tuple ⟨[iN m, .int .i64 0]⟩))
              · (repeat (first | with_reducible exact Loc.hd | with_reducible exact Loc.last | with_reducible exact Loc.one | with_reducible apply Loc.tl | with_reducible apply Loc.skip))
              · (repeat (first | with_reducible exact Loc.hd | with_reducible exact Loc.last | with_reducible exact Loc.one | with_reducible apply Loc.tl | with_reducible apply Loc.skip))
              · exact f55L ⟨pF, sbF, wbF⟩ ⟨qF, lpF, lsF⟩ SF Tf (20 + 10560 * k) m 0 [g.getD k default] _ 1 _ (fun e he => by rw [List.mem_singleton.1 he]; exact hew) (by show 1 < 1000000; decide) hF.ok (by omega) hkF t2 _ (one_rd hkl2 (Buf.rd hG))
              rintro _ _ ⟨⟨p6, sb6, wb6⟩, ⟨q6, lp6, ls6⟩, hp6, hq6, hk6, rfl, rfl⟩
              obtain rfl : pF = p6 := hp6.symm
              obtain rfl : qF = q6 := hq6.symm
              repeat' (conv => whnf
                       first
                       | (with_reducible refine NextSt.mk ?_))
              conv => whnf
              with_reducible apply CallSt.locG (f := 55) (H := bH ⟨pA, sb4, wb4⟩ S2.1 ⟨qA, lpA, lsA⟩ S2.2) (G := G.hp 70 (g.flatMap enV)) (R := BR ⟨pA, sb4, wb4⟩ ⟨qA, lpA, lsA⟩ S2 (.tuple ⟨[iN 0, .int .i64 94]⟩))
              · (repeat (first | with_reducible exact Loc.hd | with_reducible exact Loc.last | with_reducible exact Loc.one | with_reducible apply Loc.tl | with_reducible apply Loc.skip))
              · (repeat (first | with_reducible exact Loc.hd | with_reducible exact Loc.last | with_reducible exact Loc.one | with_reducible apply Loc.tl | with_reducible apply Loc.skip))
              · exact f55L ⟨pA, sb4, wb4⟩ ⟨qA, lpA, lsA⟩ S2 S2 (20 + 20 * k) 0 94 [g.getD k default] _ 1 _ (fun e he => by rw [List.mem_singleton.1 he]; exact hew) (by show 1 < 1000000; decide) hC2.ok (by omega) hkA2 t1 _ (one_rd hkl2 (Buf.rd hG))
              rintro _ _ ⟨⟨p7, sb7, wb7⟩, ⟨q7, lp7, ls7⟩, hp7, hq7, hk7, rfl, rfl⟩
              obtain rfl : pA = p7 := hp7.symm
              obtain rfl : qA = q7 := hq7.symm
              clear hkA2
              have hkA2 := hk7
              repeat' (conv => whnf
                       first
                       | (((with_reducible apply Cmp.no); · exact fun h => h rfl))
                       | (((with_reducible apply Cmp.yes); · rfl))
                       | (with_reducible refine NextSt.mk ?_)
                       | (with_reducible refine OnBB.tt ?_)
                       | (with_reducible refine OnBB.ff ?_))
              conv => whnf
              repeat' (conv => whnf
                       first
                       | fail)
              conv => whnf
              with_reducible apply CallSt.loc (f := 45) (H := dHp ⟨pA, sb7, wb7⟩ S2.1) (R := DR ⟨pA, sb7, wb7⟩ (S2.1.restart keep) noV)
              · repeat (first | with_reducible exact Gv.Loc.hd | with_reducible exact Loc.left Gv.Loc.hd | with_reducible exact Loc.left (Loc.skip Gv.Loc.last) | with_reducible apply Gv.Loc.tl | with_reducible apply Gv.Loc.skip)
              · exact f45 ⟨pA, sb7, wb7⟩ S2.1 keep (Dk.okB.ok (hC2.ok.d) (by omega)) hkl (hkA2.d) _
              rintro _ _ ⟨⟨p5, sb5, wb5⟩, hp5, rfl, hk5, rfl⟩
              obtain rfl : pA = p5 := hp5.symm
              repeat' (conv => whnf
                       first
                       | (with_reducible refine NextSt.mk ?_))
              conv => whnf
              have e65 := f65 ⟨pA, sb5, wb5⟩ (S2.1.restart keep) _ (okB.restart (hC2.ok.d) keep) (by omega) hk5 h
              rw [open_after (hC2.still keep)] at e65
              apply CallSt.new (R := OpenR pA (some ⟨S2.2.logs, S2.2.at_, (S2.1.restart keep).falls⟩, 0))
              · apply GSpec.locNew (H := dHp ⟨pA, sb5, wb5⟩ (S2.1.restart keep))
                · repeat (first | with_reducible exact Gv.Loc.hd | with_reducible exact Loc.left Gv.Loc.hd | with_reducible exact Loc.left (Loc.skip Gv.Loc.last) | with_reducible apply Gv.Loc.tl | with_reducible apply Gv.Loc.skip)
                · exact e65
              rintro _ _ ⟨b9, hk9, rfl, rfl⟩
              repeat' (conv => whnf
                       first
                       | (((with_reducible apply Cmp.yes); · rfl))
                       | (with_reducible refine NextSt.mk ?_)
                       | (with_reducible refine OnBB.tt ?_))
              conv => whnf
              apply CallSt.rd (f := 56) (X := .bool true)
              · rw [← decide_eq_true (rfl : S2.2.logs = S2.2.logs)]
                apply f56k pA pA ⟨qA, lp7, ls7⟩ b9 S2.2 ⟨S2.2.logs, S2.2.at_, (S2.1.restart keep).falls⟩
                · repeat (first | with_reducible exact Gv.Loc.hd | with_reducible exact Loc.left Gv.Loc.hd | with_reducible exact Loc.left (Loc.skip Gv.Loc.last) | with_reducible apply Gv.Loc.tl | with_reducible apply Gv.Loc.skip)
                · repeat (first | with_reducible exact Gv.Loc.hd | with_reducible exact Loc.left Gv.Loc.hd | with_reducible exact Loc.left (Loc.skip Gv.Loc.last) | with_reducible apply Gv.Loc.tl | with_reducible apply Gv.Loc.skip)
                · exact hC2.ok.wf
                · exact hC2.ok.wf
                · exact hkA2.k
                · exact hk9
              repeat' (conv => whnf
                       first
                       | (with_reducible refine NextSt.mk ?_)
                       | (with_reducible refine OnBB.tt ?_))
              conv => whnf
              refine FinSt.ret (by (try dsimp only); (try simp only [List.cons_append, List.nil_append]); (repeat (first | with_reducible exact List.Sublist.refl _ | with_reducible exact List.nil_sublist _ | with_reducible apply List.Sublist.cons_cons | with_reducible apply sub_app | apply List.Sublist.cons_cons | apply sub_app | with_reducible apply List.Sublist.cons | with_reducible apply sub_skip))) ?_
              rfl
            · repeat' (conv => whnf
                       first
                       | (((apply SlSl.three (l := k) (r := k + 1) (m := k + 1)); (· rfl); (· rfl); (· rfl); (· omega); (· omega); (· have := Buf.le hG; omega)); rw [Nat.add_sub_cancel_left])
                       | (with_reducible refine NextSt.mk ?_)
                       | ((with_reducible apply NW.addN); (· first | with_reducible rfl | exact natL _); (· first | with_reducible rfl | exact natL _); (· omega)))
              conv => whnf
              with_reducible apply CallSt.locG (f := 55) (H := bH ⟨pF, sbF, wbF⟩ SF.1 ⟨qF, lpF, lsF⟩ SF.2) (G := G.hp 70 (g.flatMap enV)) (R := BR ⟨pF, sbF, wbF⟩ ⟨qF, lpF, lsF⟩ Tf (.tuple ⟨[iN m, .int .i64 0]⟩))
              · (repeat (first | with_reducible exact Loc.hd | with_reducible exact Loc.last | with_reducible exact Loc.one | with_reducible apply Loc.tl | with_reducible apply Loc.skip))
              · (repeat (first | with_reducible exact Loc.hd | with_reducible exact Loc.last | with_reducible exact Loc.one | with_reducible apply Loc.tl | with_reducible apply Loc.skip))
              · exact f55L ⟨pF, sbF, wbF⟩ ⟨qF, lpF, lsF⟩ SF Tf (20 + 10560 * k) m 0 [g.getD k default] _ 1 _ (fun e he => by rw [List.mem_singleton.1 he]; exact hew) (by show 1 < 1000000; decide) hF.ok (by omega) hkF t2 _ (one_rd hkl2 (Buf.rd hG))
              rintro _ _ ⟨⟨p6, sb6, wb6⟩, ⟨q6, lp6, ls6⟩, hp6, hq6, hk6, rfl, rfl⟩
              obtain rfl : pF = p6 := hp6.symm
              obtain rfl : qF = q6 := hq6.symm
              repeat' (conv => whnf
                       first
                       | (with_reducible refine NextSt.mk ?_))
              conv => whnf
              with_reducible apply CallSt.locG (f := 55) (H := bH ⟨pA, sb4, wb4⟩ S2.1 ⟨qA, lpA, lsA⟩ S2.2) (G := G.hp 70 (g.flatMap enV)) (R := BR ⟨pA, sb4, wb4⟩ ⟨qA, lpA, lsA⟩ T (.tuple ⟨[iN 0, .int .i64 93]⟩))
              · (repeat (first | with_reducible exact Loc.hd | with_reducible exact Loc.last | with_reducible exact Loc.one | with_reducible apply Loc.tl | with_reducible apply Loc.skip))
              · (repeat (first | with_reducible exact Loc.hd | with_reducible exact Loc.last | with_reducible exact Loc.one | with_reducible apply Loc.tl | with_reducible apply Loc.skip))
              · exact f55L ⟨pA, sb4, wb4⟩ ⟨qA, lpA, lsA⟩ S2 T (20 + 20 * k) 0 93 [g.getD k default] _ 1 _ (fun e he => by rw [List.mem_singleton.1 he]; exact hew) (by show 1 < 1000000; decide) hC2.ok (by omega) hkA2 t1 _ (one_rd hkl2 (Buf.rd hG))
              rintro _ _ ⟨⟨p7, sb7, wb7⟩, ⟨q7, lp7, ls7⟩, hp7, hq7, hk7, rfl, rfl⟩
              obtain rfl : pA = p7 := hp7.symm
              obtain rfl : qA = q7 := hq7.symm
              clear hkA2
              have hkA2 := hk7
              obtain ⟨L, at9, hho, hLo⟩ := hcr keep
              have hLw := hho.wf
              have hTw : wfL T.2.logs := hTo.wf
              have hTB : T.2.logs = SB.2.logs := by rw [hT2]; exact hlB.symm
              repeat' (conv => whnf
                       first
                       | (((with_reducible apply Cmp.no); · exact fun h => h rfl))
                       | (((with_reducible apply Cmp.yes); · rfl))
                       | (with_reducible refine NextSt.mk ?_)
                       | (with_reducible refine OnBB.tt ?_)
                       | (with_reducible refine OnBB.ff ?_)
                       | ((with_reducible apply Cmp.no); · first | omega | (with_reducible assumption)))
              conv => whnf
              repeat' (conv => whnf
                       first
                       | fail)
              conv => whnf
              with_reducible apply CallSt.loc (f := 45) (H := dHp ⟨pA, sb7, wb7⟩ T.1) (R := DR ⟨pA, sb7, wb7⟩ (T.1.restart keep) noV)
              · repeat (first | with_reducible exact Gv.Loc.hd | with_reducible exact Loc.left Gv.Loc.hd | with_reducible exact Loc.left (Loc.skip Gv.Loc.last) | with_reducible apply Gv.Loc.tl | with_reducible apply Gv.Loc.skip)
              · exact f45 ⟨pA, sb7, wb7⟩ T.1 keep (Dk.okB.ok (hTo.d) (by omega)) hkl (hkA2.d) _
              rintro _ _ ⟨⟨p5, sb5, wb5⟩, hp5, rfl, hk5, rfl⟩
              obtain rfl : pA = p5 := hp5.symm
              repeat' (conv => whnf
                       first
                       | (with_reducible refine NextSt.mk ?_))
              conv => whnf
              have e65 := f65 ⟨pA, sb5, wb5⟩ (T.1.restart keep) _ (okB.restart (hTo.d) keep) (by omega) hk5 h
              rw [open_after hho] at e65
              apply CallSt.new (R := OpenR pA (some ⟨L, at9, (T.1.restart keep).falls⟩, 0))
              · apply GSpec.locNew (H := dHp ⟨pA, sb5, wb5⟩ (T.1.restart keep))
                · repeat (first | with_reducible exact Gv.Loc.hd | with_reducible exact Loc.left Gv.Loc.hd | with_reducible exact Loc.left (Loc.skip Gv.Loc.last) | with_reducible apply Gv.Loc.tl | with_reducible apply Gv.Loc.skip)
                · exact e65
              rintro _ _ ⟨b9, hk9, rfl, rfl⟩
              conv => whnf
              refine NextSt.mk ?_
              conv => whnf
              refine Cmp.no (fun h => h rfl) ?_
              conv => whnf
              refine OnBB.ff ?_
              conv => whnf
              refine OnBB.ff ?_
              conv => whnf
              refine OnBB.ff ?_
              conv => whnf
              refine NextSt.mk ?_
              refine (show codeK _ (Code.cond (Operand.tmp 120) _ _) _ _ _ _ from ?_)
              refine cond_step (v := Value.bool false) ?_ ?_
              · rfl
              conv => whnf
              refine OnBB.ff ?_
              by_cases hLb : L = SB.2.logs
              · repeat' (conv => whnf
                         first
                         | (((with_reducible apply Cmp.yes); · omega))
                         | (with_reducible refine OnBB.tt ?_))
                conv => whnf
                apply CallSt.rd (f := 56) (X := .bool true)
                · rw [← decide_eq_true hLb]
                  apply f56k pA pB b9 ⟨qB, lpB, lsB⟩ ⟨L, at9, (T.1.restart keep).falls⟩ SB.2
                  · repeat (first | with_reducible exact Gv.Loc.hd | with_reducible exact Loc.left Gv.Loc.hd | with_reducible exact Loc.left (Loc.skip Gv.Loc.last) | with_reducible apply Gv.Loc.tl | with_reducible apply Gv.Loc.skip)
                  · repeat (first | with_reducible exact Gv.Loc.hd | with_reducible exact Loc.left Gv.Loc.hd | with_reducible exact Loc.left (Loc.skip Gv.Loc.last) | with_reducible apply Gv.Loc.tl | with_reducible apply Gv.Loc.skip)
                  · exact hLw
                  · exact hB.ok.wf
                  · exact hk9
                  · exact hkB.k
                repeat' (conv => whnf
                         first
                         | (with_reducible refine OnBB.tt ?_))
                conv => whnf
                apply CallSt.rd (f := 56) (X := .bool true)
                · rw [← decide_eq_true hTB]
                  apply f56k pA pB ⟨qA, lp7, ls7⟩ ⟨qB, lpB, lsB⟩ T.2 SB.2
                  · repeat (first | with_reducible exact Gv.Loc.hd | with_reducible exact Loc.left Gv.Loc.hd | with_reducible exact Loc.left (Loc.skip Gv.Loc.last) | with_reducible apply Gv.Loc.tl | with_reducible apply Gv.Loc.skip)
                  · repeat (first | with_reducible exact Gv.Loc.hd | with_reducible exact Loc.left Gv.Loc.hd | with_reducible exact Loc.left (Loc.skip Gv.Loc.last) | with_reducible apply Gv.Loc.tl | with_reducible apply Gv.Loc.skip)
                  · exact hTw
                  · exact hB.ok.wf
                  · exact hk7.k
                  · exact hkB.k
                repeat' (conv => whnf
                         first
                         | (with_reducible refine NextSt.mk ?_)
                         | (with_reducible refine OnBB.tt ?_))
                conv => whnf
                refine FinSt.ret (by (try dsimp only); (try simp only [List.cons_append, List.nil_append]); (repeat (first | with_reducible exact List.Sublist.refl _ | with_reducible exact List.nil_sublist _ | with_reducible apply List.Sublist.cons_cons | with_reducible apply sub_app | apply List.Sublist.cons_cons | apply sub_app | with_reducible apply List.Sublist.cons | with_reducible apply sub_skip))) ?_
                rfl
              · have hLf : L = Tf.2.logs := hLo.resolve_left fun hx => hLb (hx.trans hlB.symm)
                repeat' (conv => whnf
                         first
                         | (((with_reducible apply Cmp.yes); · omega))
                         | (with_reducible refine OnBB.tt ?_))
                conv => whnf
                apply CallSt.rd (f := 56) (X := .bool false)
                · rw [← decide_eq_false hLb]
                  apply f56k pA pB b9 ⟨qB, lpB, lsB⟩ ⟨L, at9, (T.1.restart keep).falls⟩ SB.2
                  · repeat (first | with_reducible exact Gv.Loc.hd | with_reducible exact Loc.left Gv.Loc.hd | with_reducible exact Loc.left (Loc.skip Gv.Loc.last) | with_reducible apply Gv.Loc.tl | with_reducible apply Gv.Loc.skip)
                  · repeat (first | with_reducible exact Gv.Loc.hd | with_reducible exact Loc.left Gv.Loc.hd | with_reducible exact Loc.left (Loc.skip Gv.Loc.last) | with_reducible apply Gv.Loc.tl | with_reducible apply Gv.Loc.skip)
                  · exact hLw
                  · exact hB.ok.wf
                  · exact hk9
                  · exact hkB.k
                repeat' (conv => whnf
                         first
                         | (with_reducible refine OnBB.tt ?_)
                         | (with_reducible refine OnBB.ff ?_))
                conv => whnf
                apply CallSt.rd (f := 56) (X := .bool true)
                · rw [← decide_eq_true hLf]
                  apply f56k pA pF b9 ⟨qF, lp6, ls6⟩ ⟨L, at9, (T.1.restart keep).falls⟩ Tf.2
                  · repeat (first | with_reducible exact Gv.Loc.hd | with_reducible exact Loc.left Gv.Loc.hd | with_reducible exact Loc.left (Loc.skip Gv.Loc.last) | with_reducible apply Gv.Loc.tl | with_reducible apply Gv.Loc.skip)
                  · repeat (first | with_reducible exact Gv.Loc.hd | with_reducible exact Loc.left Gv.Loc.hd | with_reducible exact Loc.left (Loc.skip Gv.Loc.last) | with_reducible apply Gv.Loc.tl | with_reducible apply Gv.Loc.skip)
                  · exact hLw
                  · exact hTf.ok.wf
                  · exact hk9
                  · exact hk6.k
                repeat' (conv => whnf
                         first
                         | (with_reducible refine OnBB.tt ?_)
                         | (with_reducible refine OnBB.ff ?_))
                conv => whnf
                apply CallSt.rd (f := 56) (X := .bool true)
                · rw [← decide_eq_true hTB]
                  apply f56k pA pB ⟨qA, lp7, ls7⟩ ⟨qB, lpB, lsB⟩ T.2 SB.2
                  · repeat (first | with_reducible exact Gv.Loc.hd | with_reducible exact Loc.left Gv.Loc.hd | with_reducible exact Loc.left (Loc.skip Gv.Loc.last) | with_reducible apply Gv.Loc.tl | with_reducible apply Gv.Loc.skip)
                  · repeat (first | with_reducible exact Gv.Loc.hd | with_reducible exact Loc.left Gv.Loc.hd | with_reducible exact Loc.left (Loc.skip Gv.Loc.last) | with_reducible apply Gv.Loc.tl | with_reducible apply Gv.Loc.skip)
                  · exact hTw
                  · exact hB.ok.wf
                  · exact hk7.k
                  · exact hkB.k
                repeat' (conv => whnf
                         first
                         | (with_reducible refine NextSt.mk ?_)
                         | (with_reducible refine OnBB.tt ?_))
                conv => whnf
                refine FinSt.ret (by (try dsimp only); (try simp only [List.cons_append, List.nil_append]); (repeat (first | with_reducible exact List.Sublist.refl _ | with_reducible exact List.nil_sublist _ | with_reducible apply List.Sublist.cons_cons | with_reducible apply sub_app | apply List.Sublist.cons_cons | apply sub_app | with_reducible apply List.Sublist.cons | with_reducible apply sub_skip))) ?_
                rfl
          · skip
            rcases hC.take hF (by omega) hlF (g.getD k default) with ⟨T, Tf, m, t1, t2, hT, hTf, hTl⟩ | ⟨Tf, m, t1, t2, hTf⟩ | ⟨T, Tf, m, t1, t2, hTf, hn0, hT2, hTo, hcr⟩
            · obtain ⟨Tb, t3, hTb, hTbl⟩ := hB.same hF (by omega) (hlB.trans hlF.symm) t2
              repeat' (conv => whnf
                       first
                       | (((apply SlSl.three (l := k) (r := k + 1) (m := k + 1)); (· rfl); (· rfl); (· rfl); (· omega); (· omega); (· have := Buf.le hG; omega)); rw [Nat.add_sub_cancel_left])
                       | (with_reducible refine NextSt.mk ?_)
                       | (with_reducible refine OnBB.tt ?_)
                       | (with_reducible refine OnBB.ff ?_)
                       | ((with_reducible apply NW.addN); (· first | with_reducible rfl | exact natL _); (· first | with_reducible rfl | exact natL _); (· omega))
                       | ((with_reducible apply Cmp.yes); · first | omega | (with_reducible assumption) | (with_reducible rfl))
                       | ((with_reducible apply Cmp.no); · first | omega | (with_reducible assumption)))
              conv => whnf
              with_reducible apply CallSt.locG (f := 55) (H := bH ⟨pF, sbF, wbF⟩ SF.1 ⟨qF, lpF, lsF⟩ SF.2) (G := G.hp 70 (g.flatMap enV)) (R := BR ⟨pF, sbF, wbF⟩ ⟨qF, lpF, lsF⟩ Tf (.tuple ⟨[iN m, .int .i64 0]⟩))
              · (repeat (first | with_reducible exact Loc.hd | with_reducible exact Loc.last | with_reducible exact Loc.one | with_reducible apply Loc.tl | with_reducible apply Loc.skip))
              · (repeat (first | with_reducible exact Loc.hd | with_reducible exact Loc.last | with_reducible exact Loc.one | with_reducible apply Loc.tl | with_reducible apply Loc.skip))
              · exact f55L ⟨pF, sbF, wbF⟩ ⟨qF, lpF, lsF⟩ SF Tf (20 + 10560 * k) m 0 [g.getD k default] _ 1 _ (fun e he => by rw [List.mem_singleton.1 he]; exact hew) (by show 1 < 1000000; decide) hF.ok (by omega) hkF t2 _ (one_rd hkl2 (Buf.rd hG))
              rintro _ _ ⟨⟨p6, sb6, wb6⟩, ⟨q6, lp6, ls6⟩, hp6, hq6, hk6, rfl, rfl⟩
              obtain rfl : pF = p6 := hp6.symm
              obtain rfl : qF = q6 := hq6.symm
              repeat' (conv => whnf
                       first
                       | (with_reducible refine NextSt.mk ?_))
              conv => whnf
              with_reducible apply CallSt.locG (f := 55) (H := bH ⟨pA, sbA, wbA⟩ SA.1 ⟨qA, lpA, lsA⟩ SA.2) (G := G.hp 70 (g.flatMap enV)) (R := BR ⟨pA, sbA, wbA⟩ ⟨qA, lpA, lsA⟩ T (.tuple ⟨[iN m, .int .i64 0]⟩))
              · (repeat (first | with_reducible exact Loc.hd | with_reducible exact Loc.last | with_reducible exact Loc.one | with_reducible apply Loc.tl | with_reducible apply Loc.skip))
              · (repeat (first | with_reducible exact Loc.hd | with_reducible exact Loc.last | with_reducible exact Loc.one | with_reducible apply Loc.tl | with_reducible apply Loc.skip))
              · exact f55L ⟨pA, sbA, wbA⟩ ⟨qA, lpA, lsA⟩ SA T (20 + 20 * k) m 0 [g.getD k default] _ 1 _ (fun e he => by rw [List.mem_singleton.1 he]; exact hew) (by show 1 < 1000000; decide) hC.ok (by omega) hkA t1 _ (one_rd hkl2 (Buf.rd hG))
              rintro _ _ ⟨⟨p7, sb7, wb7⟩, ⟨q7, lp7, ls7⟩, hp7, hq7, hk7, rfl, rfl⟩
              obtain rfl : pA = p7 := hp7.symm
              obtain rfl : qA = q7 := hq7.symm
              repeat' (conv => whnf
                       first
                       | (((with_reducible apply Cmp.no); · exact fun h => h rfl))
                       | (with_reducible refine NextSt.mk ?_)
                       | (with_reducible refine OnBB.ff ?_)
                       | ((with_reducible apply Cmp.no); · first | omega | (with_reducible assumption)))
              conv => whnf
              with_reducible apply CallSt.locG (f := 55) (H := bH ⟨pB, sbB, wbB⟩ SB.1 ⟨qB, lpB, lsB⟩ SB.2) (G := G.hp 70 (g.flatMap enV)) (R := BR ⟨pB, sbB, wbB⟩ ⟨qB, lpB, lsB⟩ Tb (.tuple ⟨[iN m, .int .i64 0]⟩))
              · (repeat (first | with_reducible exact Loc.hd | with_reducible exact Loc.last | with_reducible exact Loc.one | with_reducible apply Loc.tl | with_reducible apply Loc.skip))
              · (repeat (first | with_reducible exact Loc.hd | with_reducible exact Loc.last | with_reducible exact Loc.one | with_reducible apply Loc.tl | with_reducible apply Loc.skip))
              · exact f55L ⟨pB, sbB, wbB⟩ ⟨qB, lpB, lsB⟩ SB Tb (20 + 10560 * k) m 0 [g.getD k default] _ 1 _ (fun e he => by rw [List.mem_singleton.1 he]; exact hew) (by show 1 < 1000000; decide) hB.ok (by omega) hkB t3 _ (one_rd hkl2 (Buf.rd hG))
              rintro _ _ ⟨⟨p8, sb8, wb8⟩, ⟨q8, lp8, ls8⟩, hp8, hq8, hk8, rfl, rfl⟩
              obtain rfl : pB = p8 := hp8.symm
              obtain rfl : qB = q8 := hq8.symm
              repeat' (conv => whnf
                       first
                       | (((with_reducible apply Cmp.no); · exact fun h => h rfl))
                       | (with_reducible refine NextSt.mk ?_)
                       | (with_reducible refine OnBB.ff ?_))
              conv => whnf
              apply CallSt.rd (f := 56) (X := .bool true)
              · rw [← decide_eq_true hTl.symm]
                apply f56k pA pF ⟨qA, lp7, ls7⟩ ⟨qF, lp6, ls6⟩ T.2 Tf.2
                · repeat (first | with_reducible exact Gv.Loc.hd | with_reducible exact Loc.left Gv.Loc.hd | with_reducible exact Loc.left (Loc.skip Gv.Loc.last) | with_reducible apply Gv.Loc.tl | with_reducible apply Gv.Loc.skip)
                · repeat (first | with_reducible exact Gv.Loc.hd | with_reducible exact Loc.left Gv.Loc.hd | with_reducible exact Loc.left (Loc.skip Gv.Loc.last) | with_reducible apply Gv.Loc.tl | with_reducible apply Gv.Loc.skip)
                · exact hT.ok.wf
                · exact hTf.ok.wf
                · exact hk7.k
                · exact hk6.k
              repeat' (conv => whnf
                       first
                       | (with_reducible refine NextSt.mk ?_)
                       | (with_reducible refine OnBB.tt ?_)
                       | (with_reducible refine OnBB.ff ?_)
                       | ((with_reducible apply NW.addN); (· first | with_reducible rfl | exact natL _); (· first | with_reducible rfl | exact natL _); (· omega)))
              refine RoundFix.mk ((k + 1, T, Tb, Tf, sb7, wb7, lp7, ls7, sb8, wb8, lp8, ls8, sb6, wb6, lp6, ls6)) ?_ ?_ _ rfl (Wk.drop (by (try dsimp only); (try simp only [List.cons_append, List.nil_append]); (repeat (first | with_reducible exact List.Sublist.refl _ | with_reducible exact List.nil_sublist _ | with_reducible apply List.Sublist.cons_cons | with_reducible apply sub_app | apply List.Sublist.cons_cons | apply sub_app | with_reducible apply List.Sublist.cons | with_reducible apply sub_skip)))) ?_
              · dsimp only; omega
              · repeat' (first | exact True.intro | refine And.intro ?_ ?_ | rfl | exact congrArg (Value.int _) (by omega) | exact congrArg (fun n => Value.slice _ n _) (by (try dsimp only); omega))
              · exact ⟨by omega, hT, hTb, hTf, hTbl.trans hTl, hTl, hk7, hk8, hk6⟩
            · repeat' (conv => whnf
                       first
                       | (((apply SlSl.three (l := k) (r := k + 1) (m := k + 1)); (· rfl); (· rfl); (· rfl); (· omega); (· omega); (· have := Buf.le hG; omega)); rw [Nat.add_sub_cancel_left])
                       | (with_reducible refine NextSt.mk ?_)
                       | (with_reducible refine OnBB.tt ?_)
                       | (with_reducible refine OnBB.ff ?_)
                       | ((with_reducible apply NW.addN); (· first | with_reducible rfl | exact natL _); (· first | with_reducible rfl | exact natL _); (· omega))
                       | ((with_reducible apply Cmp.yes); · first | omega | (with_reducible assumption) | (with_reducible rfl))
                       | ((with_reducible apply Cmp.no); · first | omega | (with_reducible assumption)))
              conv => whnf
              with_reducible apply CallSt.locG (f := 55) (H := bH ⟨pF, sbF, wbF⟩ SF.1 ⟨qF, lpF, lsF⟩ SF.2) (G := G.hp 70 (g.flatMap enV)) (R := BR ⟨pF, sbF, wbF⟩ ⟨qF, lpF, lsF⟩ Tf (.tuple ⟨[iN m, .int .i64 0]⟩))
              · (repeat (first | with_reducible exact Loc.hd | with_reducible exact Loc.last | with_reducible exact Loc.one | with_reducible apply Loc.tl | with_reducible apply Loc.skip))
              · (repeat (first | with_reducible exact Loc.hd | with_reducible exact Loc.last | with_reducible exact Loc.one | with_reducible apply Loc.tl | with_reducible apply Loc.skip))
              · exact f55L ⟨pF, sbF, wbF⟩ ⟨qF, lpF, lsF⟩ SF Tf (20 + 10560 * k) m 0 [g.getD k default] _ 1 _ (fun e he => by rw [List.mem_singleton.1 he]; exact hew) (by show 1 < 1000000; decide) hF.ok (by omega) hkF t2 _ (one_rd hkl2 (Buf.rd hG))
              rintro _ _ ⟨⟨p6, sb6, wb6⟩, ⟨q6, lp6, ls6⟩, hp6, hq6, hk6, rfl, rfl⟩
              obtain rfl : pF = p6 := hp6.symm
              obtain rfl : qF = q6 := hq6.symm
              repeat' (conv => whnf
                       first
                       | (with_reducible refine NextSt.mk ?_))
              conv => whnf
              with_reducible apply CallSt.locG (f := 55) (H := bH ⟨pA, sbA, wbA⟩ SA.1 ⟨qA, lpA, lsA⟩ SA.2) (G := G.hp 70 (g.flatMap enV)) (R := BR ⟨pA, sbA, wbA⟩ ⟨qA, lpA, lsA⟩ SA (.tuple ⟨[iN 0, .int .i64 94]⟩))
              · (repeat (first | with_reducible exact Loc.hd | with_reducible exact Loc.last | with_reducible exact Loc.one | with_reducible apply Loc.tl | with_reducible apply Loc.skip))
              · (repeat (first | with_reducible exact Loc.hd | with_reducible exact Loc.last | with_reducible exact Loc.one | with_reducible apply Loc.tl | with_reducible apply Loc.skip))
              · exact f55L ⟨pA, sbA, wbA⟩ ⟨qA, lpA, lsA⟩ SA SA (20 + 20 * k) 0 94 [g.getD k default] _ 1 _ (fun e he => by rw [List.mem_singleton.1 he]; exact hew) (by show 1 < 1000000; decide) hC.ok (by omega) hkA t1 _ (one_rd hkl2 (Buf.rd hG))
              rintro _ _ ⟨⟨p7, sb7, wb7⟩, ⟨q7, lp7, ls7⟩, hp7, hq7, hk7, rfl, rfl⟩
              obtain rfl : pA = p7 := hp7.symm
              obtain rfl : qA = q7 := hq7.symm
              clear hkA
              have hkA := hk7
              repeat' (conv => whnf
                       first
                       | (((with_reducible apply Cmp.no); · exact fun h => h rfl))
                       | (((with_reducible apply Cmp.yes); · rfl))
                       | (with_reducible refine NextSt.mk ?_)
                       | (with_reducible refine OnBB.tt ?_)
                       | (with_reducible refine OnBB.ff ?_))
              conv => whnf
              repeat' (conv => whnf
                       first
                       | fail)
              conv => whnf
              with_reducible apply CallSt.loc (f := 45) (H := dHp ⟨pA, sb7, wb7⟩ SA.1) (R := DR ⟨pA, sb7, wb7⟩ (SA.1.restart keep) noV)
              · repeat (first | with_reducible exact Gv.Loc.hd | with_reducible exact Loc.left Gv.Loc.hd | with_reducible exact Loc.left (Loc.skip Gv.Loc.last) | with_reducible apply Gv.Loc.tl | with_reducible apply Gv.Loc.skip)
              · exact f45 ⟨pA, sb7, wb7⟩ SA.1 keep (Dk.okB.ok (hC.ok.d) (by omega)) hkl (hkA.d) _
              rintro _ _ ⟨⟨p5, sb5, wb5⟩, hp5, rfl, hk5, rfl⟩
              obtain rfl : pA = p5 := hp5.symm
              repeat' (conv => whnf
                       first
                       | (with_reducible refine NextSt.mk ?_))
              conv => whnf
              have e65 := f65 ⟨pA, sb5, wb5⟩ (SA.1.restart keep) _ (okB.restart (hC.ok.d) keep) (by omega) hk5 h
              rw [open_after (hC.still keep)] at e65
              apply CallSt.new (R := OpenR pA (some ⟨SA.2.logs, SA.2.at_, (SA.1.restart keep).falls⟩, 0))
              · apply GSpec.locNew (H := dHp ⟨pA, sb5, wb5⟩ (SA.1.restart keep))
                · repeat (first | with_reducible exact Gv.Loc.hd | with_reducible exact Loc.left Gv.Loc.hd | with_reducible exact Loc.left (Loc.skip Gv.Loc.last) | with_reducible apply Gv.Loc.tl | with_reducible apply Gv.Loc.skip)
                · exact e65
              rintro _ _ ⟨b9, hk9, rfl, rfl⟩
              repeat' (conv => whnf
                       first
                       | (((with_reducible apply Cmp.yes); · rfl))
                       | (with_reducible refine NextSt.mk ?_)
                       | (with_reducible refine OnBB.tt ?_))
              conv => whnf
              apply CallSt.rd (f := 56) (X := .bool true)
              · rw [← decide_eq_true (rfl : SA.2.logs = SA.2.logs)]
                apply f56k pA pA ⟨qA, lp7, ls7⟩ b9 SA.2 ⟨SA.2.logs, SA.2.at_, (SA.1.restart keep).falls⟩
                · repeat (first | with_reducible exact Gv.Loc.hd | with_reducible exact Loc.left Gv.Loc.hd | with_reducible exact Loc.left (Loc.skip Gv.Loc.last) | with_reducible apply Gv.Loc.tl | with_reducible apply Gv.Loc.skip)
                · repeat (first | with_reducible exact Gv.Loc.hd | with_reducible exact Loc.left Gv.Loc.hd | with_reducible exact Loc.left (Loc.skip Gv.Loc.last) | with_reducible apply Gv.Loc.tl | with_reducible apply Gv.Loc.skip)
                · exact hC.ok.wf
                · exact hC.ok.wf
                · exact hkA.k
                · exact hk9
              repeat' (conv => whnf
                       first
                       | (with_reducible refine NextSt.mk ?_)
                       | (with_reducible refine OnBB.tt ?_))
              conv => whnf
              refine FinSt.ret (by (try dsimp only); (try simp only [List.cons_append, List.nil_append]); (repeat (first | with_reducible exact List.Sublist.refl _ | with_reducible exact List.nil_sublist _ | with_reducible apply List.Sublist.cons_cons | with_reducible apply sub_app | apply List.Sublist.cons_cons | apply sub_app | with_reducible apply List.Sublist.cons | with_reducible apply sub_skip))) ?_
              rfl
            · repeat' (conv => whnf
                       first
                       | (((apply SlSl.three (l := k) (r := k + 1) (m := k + 1)); (· rfl); (· rfl); (· rfl); (· omega); (· omega); (· have := Buf.le hG; omega)); rw [Nat.add_sub_cancel_left])
                       | (with_reducible refine NextSt.mk ?_)
                       | (with_reducible refine OnBB.tt ?_)
                       | (with_reducible refine OnBB.ff ?_)
                       | ((with_reducible apply NW.addN); (· first | with_reducible rfl | exact natL _); (· first | with_reducible rfl | exact natL _); (· omega))
                       | ((with_reducible apply Cmp.yes); · first | omega | (with_reducible assumption) | (with_reducible rfl))
                       | ((with_reducible apply Cmp.no); · first | omega | (with_reducible assumption)))
              conv => whnf
              with_reducible apply CallSt.locG (f := 55) (H := bH ⟨pF, sbF, wbF⟩ SF.1 ⟨qF, lpF, lsF⟩ SF.2) (G := G.hp 70 (g.flatMap enV)) (R := BR ⟨pF, sbF, wbF⟩ ⟨qF, lpF, lsF⟩ Tf (.tuple ⟨[iN m, .int .i64 0]⟩))
              · (repeat (first | with_reducible exact Loc.hd | with_reducible exact Loc.last | with_reducible exact Loc.one | with_reducible apply Loc.tl | with_reducible apply Loc.skip))
              · (repeat (first | with_reducible exact Loc.hd | with_reducible exact Loc.last | with_reducible exact Loc.one | with_reducible apply Loc.tl | with_reducible apply Loc.skip))
              · exact f55L ⟨pF, sbF, wbF⟩ ⟨qF, lpF, lsF⟩ SF Tf (20 + 10560 * k) m 0 [g.getD k default] _ 1 _ (fun e he => by rw [List.mem_singleton.1 he]; exact hew) (by show 1 < 1000000; decide) hF.ok (by omega) hkF t2 _ (one_rd hkl2 (Buf.rd hG))
              rintro _ _ ⟨⟨p6, sb6, wb6⟩, ⟨q6, lp6, ls6⟩, hp6, hq6, hk6, rfl, rfl⟩
              obtain rfl : pF = p6 := hp6.symm
              obtain rfl : qF = q6 := hq6.symm
              repeat' (conv => whnf
                       first
                       | (with_reducible refine NextSt.mk ?_))
              conv => whnf
              with_reducible apply CallSt.locG (f := 55) (H := bH ⟨pA, sbA, wbA⟩ SA.1 ⟨qA, lpA, lsA⟩ SA.2) (G := G.hp 70 (g.flatMap enV)) (R := BR ⟨pA, sbA, wbA⟩ ⟨qA, lpA, lsA⟩ T (.tuple ⟨[iN 0, .int .i64 93]⟩))
              · (repeat (first | with_reducible exact Loc.hd | with_reducible exact Loc.last | with_reducible exact Loc.one | with_reducible apply Loc.tl | with_reducible apply Loc.skip))
              · (repeat (first | with_reducible exact Loc.hd | with_reducible exact Loc.last | with_reducible exact Loc.one | with_reducible apply Loc.tl | with_reducible apply Loc.skip))
              · exact f55L ⟨pA, sbA, wbA⟩ ⟨qA, lpA, lsA⟩ SA T (20 + 20 * k) 0 93 [g.getD k default] _ 1 _ (fun e he => by rw [List.mem_singleton.1 he]; exact hew) (by show 1 < 1000000; decide) hC.ok (by omega) hkA t1 _ (one_rd hkl2 (Buf.rd hG))
              rintro _ _ ⟨⟨p7, sb7, wb7⟩, ⟨q7, lp7, ls7⟩, hp7, hq7, hk7, rfl, rfl⟩
              obtain rfl : pA = p7 := hp7.symm
              obtain rfl : qA = q7 := hq7.symm
              clear hkA
              have hkA := hk7
              obtain ⟨L, at9, hho, hLo⟩ := hcr keep
              have hLw := hho.wf
              have hTw : wfL T.2.logs := hTo.wf
              have hTB : T.2.logs = SB.2.logs := by rw [hT2]; exact hlB.symm
              repeat' (conv => whnf
                       first
                       | (((with_reducible apply Cmp.no); · exact fun h => h rfl))
                       | (((with_reducible apply Cmp.yes); · rfl))
                       | (with_reducible refine NextSt.mk ?_)
                       | (with_reducible refine OnBB.tt ?_)
                       | (with_reducible refine OnBB.ff ?_)
                       | ((with_reducible apply Cmp.no); · first | omega | (with_reducible assumption)))
              conv => whnf
              repeat' (conv => whnf
                       first
                       | fail)
              conv => whnf
              with_reducible apply CallSt.loc (f := 45) (H := dHp ⟨pA, sb7, wb7⟩ T.1) (R := DR ⟨pA, sb7, wb7⟩ (T.1.restart keep) noV)
              · repeat (first | with_reducible exact Gv.Loc.hd | with_reducible exact Loc.left Gv.Loc.hd | with_reducible exact Loc.left (Loc.skip Gv.Loc.last) | with_reducible apply Gv.Loc.tl | with_reducible apply Gv.Loc.skip)
              · exact f45 ⟨pA, sb7, wb7⟩ T.1 keep (Dk.okB.ok (hTo.d) (by omega)) hkl (hkA.d) _
              rintro _ _ ⟨⟨p5, sb5, wb5⟩, hp5, rfl, hk5, rfl⟩
              obtain rfl : pA = p5 := hp5.symm
              repeat' (conv => whnf
                       first
                       | (with_reducible refine NextSt.mk ?_))
              conv => whnf
              have e65 := f65 ⟨pA, sb5, wb5⟩ (T.1.restart keep) _ (okB.restart (hTo.d) keep) (by omega) hk5 h
              rw [open_after hho] at e65
              apply CallSt.new (R := OpenR pA (some ⟨L, at9, (T.1.restart keep).falls⟩, 0))
              · apply GSpec.locNew (H := dHp ⟨pA, sb5, wb5⟩ (T.1.restart keep))
                · repeat (first | with_reducible exact Gv.Loc.hd | with_reducible exact Loc.left Gv.Loc.hd | with_reducible exact Loc.left (Loc.skip Gv.Loc.last) | with_reducible apply Gv.Loc.tl | with_reducible apply Gv.Loc.skip)
                · exact e65
              rintro _ _ ⟨b9, hk9, rfl, rfl⟩
              conv => whnf
              refine NextSt.mk ?_
              conv => whnf
              refine Cmp.no (fun h => h rfl) ?_
              conv => whnf
              refine OnBB.ff ?_
              conv => whnf
              refine OnBB.ff ?_
              conv => whnf
              refine OnBB.ff ?_
              conv => whnf
              refine NextSt.mk ?_
              refine (show codeK _ (Code.cond (Operand.tmp 120) _ _) _ _ _ _ from ?_)
              refine cond_step (v := Value.bool false) ?_ ?_
              · rfl
              conv => whnf
              refine OnBB.ff ?_
              by_cases hLb : L = SB.2.logs
              · repeat' (conv => whnf
                         first
                         | (((with_reducible apply Cmp.yes); · omega))
                         | (with_reducible refine OnBB.tt ?_))
                conv => whnf
                apply CallSt.rd (f := 56) (X := .bool true)
                · rw [← decide_eq_true hLb]
                  apply f56k pA pB b9 ⟨qB, lpB, lsB⟩ ⟨L, at9, (T.1.restart keep).falls⟩ SB.2
                  · repeat (first | with_reducible exact Gv.Loc.hd | with_reducible exact Loc.left Gv.Loc.hd | with_reducible exact Loc.left (Loc.skip Gv.Loc.last) | with_reducible apply Gv.Loc.tl | with_reducible apply Gv.Loc.skip)
                  · repeat (first | with_reducible exact Gv.Loc.hd | with_reducible exact Loc.left Gv.Loc.hd | with_reducible exact Loc.left (Loc.skip Gv.Loc.last) | with_reducible apply Gv.Loc.tl | with_reducible apply Gv.Loc.skip)
                  · exact hLw
                  · exact hB.ok.wf
                  · exact hk9
                  · exact hkB.k
                repeat' (conv => whnf
                         first
                         | (with_reducible refine OnBB.tt ?_))
                conv => whnf
                apply CallSt.rd (f := 56) (X := .bool true)
                · rw [← decide_eq_true hTB]
                  apply f56k pA pB ⟨qA, lp7, ls7⟩ ⟨qB, lpB, lsB⟩ T.2 SB.2
                  · repeat (first | with_reducible exact Gv.Loc.hd | with_reducible exact Loc.left Gv.Loc.hd | with_reducible exact Loc.left (Loc.skip Gv.Loc.last) | with_reducible apply Gv.Loc.tl | with_reducible apply Gv.Loc.skip)
                  · repeat (first | with_reducible exact Gv.Loc.hd | with_reducible exact Loc.left Gv.Loc.hd | with_reducible exact Loc.left (Loc.skip Gv.Loc.last) | with_reducible apply Gv.Loc.tl | with_reducible apply Gv.Loc.skip)
                  · exact hTw
                  · exact hB.ok.wf
                  · exact hk7.k
                  · exact hkB.k
                repeat' (conv => whnf
                         first
                         | (with_reducible refine NextSt.mk ?_)
                         | (with_reducible refine OnBB.tt ?_))
                conv => whnf
                refine FinSt.ret (by (try dsimp only); (try simp only [List.cons_append, List.nil_append]); (repeat (first | with_reducible exact List.Sublist.refl _ | with_reducible exact List.nil_sublist _ | with_reducible apply List.Sublist.cons_cons | with_reducible apply sub_app | apply List.Sublist.cons_cons | apply sub_app | with_reducible apply List.Sublist.cons | with_reducible apply sub_skip))) ?_
                rfl
              · have hLf : L = Tf.2.logs := hLo.resolve_left fun hx => hLb (hx.trans hlB.symm)
                repeat' (conv => whnf
                         first
                         | (((with_reducible apply Cmp.yes); · omega))
                         | (with_reducible refine OnBB.tt ?_))
                conv => whnf
                apply CallSt.rd (f := 56) (X := .bool false)
                · rw [← decide_eq_false hLb]
                  apply f56k pA pB b9 ⟨qB, lpB, lsB⟩ ⟨L, at9, (T.1.restart keep).falls⟩ SB.2
                  · repeat (first | with_reducible exact Gv.Loc.hd | with_reducible exact Loc.left Gv.Loc.hd | with_reducible exact Loc.left (Loc.skip Gv.Loc.last) | with_reducible apply Gv.Loc.tl | with_reducible apply Gv.Loc.skip)
                  · repeat (first | with_reducible exact Gv.Loc.hd | with_reducible exact Loc.left Gv.Loc.hd | with_reducible exact Loc.left (Loc.skip Gv.Loc.last) | with_reducible apply Gv.Loc.tl | with_reducible apply Gv.Loc.skip)
                  · exact hLw
                  · exact hB.ok.wf
                  · exact hk9
                  · exact hkB.k
                repeat' (conv => whnf
                         first
                         | (with_reducible refine OnBB.tt ?_)
                         | (with_reducible refine OnBB.ff ?_))
                conv => whnf
                apply CallSt.rd (f := 56) (X := .bool true)
                · rw [← decide_eq_true hLf]
                  apply f56k pA pF b9 ⟨qF, lp6, ls6⟩ ⟨L, at9, (T.1.restart keep).falls⟩ Tf.2
                  · repeat (first | with_reducible exact Gv.Loc.hd | with_reducible exact Loc.left Gv.Loc.hd | with_reducible exact Loc.left (Loc.skip Gv.Loc.last) | with_reducible apply Gv.Loc.tl | with_reducible apply Gv.Loc.skip)
                  · repeat (first | with_reducible exact Gv.Loc.hd | with_reducible exact Loc.left Gv.Loc.hd | with_reducible exact Loc.left (Loc.skip Gv.Loc.last) | with_reducible apply Gv.Loc.tl | with_reducible apply Gv.Loc.skip)
                  · exact hLw
                  · exact hTf.ok.wf
                  · exact hk9
                  · exact hk6.k
                repeat' (conv => whnf
                         first
                         | (with_reducible refine OnBB.tt ?_)
                         | (with_reducible refine OnBB.ff ?_))
                conv => whnf
                apply CallSt.rd (f := 56) (X := .bool true)
                · rw [← decide_eq_true hTB]
                  apply f56k pA pB ⟨qA, lp7, ls7⟩ ⟨qB, lpB, lsB⟩ T.2 SB.2
                  · repeat (first | with_reducible exact Gv.Loc.hd | with_reducible exact Loc.left Gv.Loc.hd | with_reducible exact Loc.left (Loc.skip Gv.Loc.last) | with_reducible apply Gv.Loc.tl | with_reducible apply Gv.Loc.skip)
                  · repeat (first | with_reducible exact Gv.Loc.hd | with_reducible exact Loc.left Gv.Loc.hd | with_reducible exact Loc.left (Loc.skip Gv.Loc.last) | with_reducible apply Gv.Loc.tl | with_reducible apply Gv.Loc.skip)
                  · exact hTw
                  · exact hB.ok.wf
                  · exact hk7.k
                  · exact hkB.k
                repeat' (conv => whnf
                         first
                         | (with_reducible refine NextSt.mk ?_)
                         | (with_reducible refine OnBB.tt ?_))
                conv => whnf
                refine FinSt.ret (by (try dsimp only); (try simp only [List.cons_append, List.nil_append]); (repeat (first | with_reducible exact List.Sublist.refl _ | with_reducible exact List.nil_sublist _ | with_reducible apply List.Sublist.cons_cons | with_reducible apply sub_app | apply List.Sublist.cons_cons | apply sub_app | with_reducible apply List.Sublist.cons | with_reducible apply sub_skip))) ?_
                rfl
        · have : k = g.length := by omega
          subst this
          repeat' (conv => whnf
                   first
                   | (with_reducible refine NextSt.mk ?_)
                   | (with_reducible refine OnBB.ff ?_)
                   | ((with_reducible apply Cmp.no); · first | omega | (with_reducible assumption)))
          conv => whnf
          with_reducible apply CallSt.loc (f := 45) (H := dHp ⟨pA, sbA, wbA⟩ SA.1) (R := DR ⟨pA, sbA, wbA⟩ (SA.1.restart keep) noV)
          · repeat (first | with_reducible exact Gv.Loc.hd | with_reducible exact Loc.left Gv.Loc.hd | with_reducible exact Loc.left (Loc.skip Gv.Loc.last) | with_reducible apply Gv.Loc.tl | with_reducible apply Gv.Loc.skip)
          · exact f45 ⟨pA, sbA, wbA⟩ SA.1 keep (Dk.okB.ok (hC.ok.d) (by omega)) hkl (hkA.d) _
          rintro _ _ ⟨⟨p5, sb5, wb5⟩, hp5, rfl, hk5, rfl⟩
          obtain rfl : pA = p5 := hp5.symm
          repeat' (conv => whnf
                   first
                   | (with_reducible refine NextSt.mk ?_))
          conv => whnf
          have e65 := f65 ⟨pA, sb5, wb5⟩ (SA.1.restart keep) _ (okB.restart (hC.ok.d) keep) (by omega) hk5 h
          rw [open_after (hC.still keep)] at e65
          apply CallSt.new (R := OpenR pA (some ⟨SA.2.logs, SA.2.at_, (SA.1.restart keep).falls⟩, 0))
          · apply GSpec.locNew (H := dHp ⟨pA, sb5, wb5⟩ (SA.1.restart keep))
            · repeat (first | with_reducible exact Gv.Loc.hd | with_reducible exact Loc.left Gv.Loc.hd | with_reducible exact Loc.left (Loc.skip Gv.Loc.last) | with_reducible apply Gv.Loc.tl | with_reducible apply Gv.Loc.skip)
            · exact e65
          rintro _ _ ⟨b9, hk9, rfl, rfl⟩
          repeat' (conv => whnf
                   first
                   | (((with_reducible apply Cmp.yes); · rfl))
                   | (with_reducible refine NextSt.mk ?_)
                   | (with_reducible refine OnBB.tt ?_))
          conv => whnf
          apply CallSt.rd (f := 56) (X := .bool true)
          · rw [← decide_eq_true (rfl : SA.2.logs = SA.2.logs)]
            apply f56k pA pA ⟨qA, lpA, lsA⟩ b9 SA.2 ⟨SA.2.logs, SA.2.at_, (SA.1.restart keep).falls⟩
            · repeat (first | with_reducible exact Gv.Loc.hd | with_reducible exact Loc.left Gv.Loc.hd | with_reducible exact Loc.left (Loc.skip Gv.Loc.last) | with_reducible apply Gv.Loc.tl | with_reducible apply Gv.Loc.skip)
            · repeat (first | with_reducible exact Gv.Loc.hd | with_reducible exact Loc.left Gv.Loc.hd | with_reducible exact Loc.left (Loc.skip Gv.Loc.last) | with_reducible apply Gv.Loc.tl | with_reducible apply Gv.Loc.skip)
            · exact hC.ok.wf
            · exact hC.ok.wf
            · exact hkA.k
            · exact hk9
          repeat' (conv => whnf
                   first
                   | (with_reducible refine NextSt.mk ?_)
                   | (with_reducible refine OnBB.tt ?_))
          conv => whnf
          refine FinSt.ret (by (try dsimp only); (try simp only [List.cons_append, List.nil_append]); (repeat (first | with_reducible exact List.Sublist.refl _ | with_reducible exact List.nil_sublist _ | with_reducible apply List.Sublist.cons_cons | with_reducible apply sub_app | apply List.Sublist.cons_cons | apply sub_app | with_reducible apply List.Sublist.cons | with_reducible apply sub_skip))) ?_
          rfl
    · refine GSpec.enter (fn := Try.f11) Try.func11 rfl (by kernel_rfl) ?_
      repeat' (conv => whnf
               first
               | ((with_reducible refine CallSt.rd (f := 17) (X := .bool true) ?_ ?_); (· exact f17 _ _))
               | ((with_reducible refine CallSt.rd (f := 52) (X := .bool true) ?_ ?_); (· exact e52 _ (Rd.cons h1)))
               | (with_reducible refine NextSt.mk ?_)
               | (with_reducible refine OnBB.tt ?_)
               | (with_reducible refine OnBB.ff ?_)
               | ((with_reducible apply Cmp.yes); · first | omega | (with_reducible assumption) | (with_reducible rfl))
               | ((with_reducible apply LoadSt.boxAgg); · (repeat (first | exact List.Mem.head _ | with_reducible apply List.mem_append_right | with_reducible apply List.mem_cons_of_mem)))
               | ((with_reducible refine AllocSt.mk ?_); intro _b _hb _hbO))
      conv => whnf
      refine FinSt.ret (by (try dsimp only); (try simp only [List.cons_append, List.nil_append]); (repeat (first | with_reducible exact List.Sublist.refl _ | with_reducible exact List.nil_sublist _ | with_reducible apply List.Sublist.cons_cons | with_reducible apply sub_app | apply List.Sublist.cons_cons | apply sub_app | with_reducible apply List.Sublist.cons | with_reducible apply sub_skip))) ?_
      rfl
  · rw [decide_eq_false hf] at e52
    refine GSpec.enter (fn := Try.f11) Try.func11 rfl (by kernel_rfl) ?_
    repeat' (conv => whnf
             first
             | ((with_reducible refine CallSt.rd (f := 17) (X := .bool true) ?_ ?_); (· exact f17 _ _))
             | ((with_reducible refine CallSt.rd (f := 52) (X := .bool false) ?_ ?_); (· exact e52 _ (Rd.cons h1)))
             | (with_reducible refine NextSt.mk ?_)
             | (with_reducible refine OnBB.tt ?_)
             | (with_reducible refine OnBB.ff ?_)
             | ((with_reducible apply LoadSt.boxAgg); · (repeat (first | exact List.Mem.head _ | with_reducible apply List.mem_append_right | with_reducible apply List.mem_cons_of_mem)))
             | ((with_reducible refine AllocSt.mk ?_); intro _b _hb _hbO))
    conv => whnf
    refine FinSt.ret (by (try dsimp only); (try simp only [List.cons_append, List.nil_append]); (repeat (first | with_reducible exact List.Sublist.refl _ | with_reducible exact List.nil_sublist _ | with_reducible apply List.Sublist.cons_cons | with_reducible apply sub_app | apply List.Sublist.cons_cons | apply sub_app | with_reducible apply List.Sublist.cons | with_reducible apply sub_skip))) ?_
    rfl
end Go.Proofs.Ytlbmlimaobkhpaa
