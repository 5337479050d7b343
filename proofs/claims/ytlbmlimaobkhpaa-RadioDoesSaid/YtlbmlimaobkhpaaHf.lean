/- RadioDoes: the plain law, books asked with whatever number. -/
import Derived.Test.YtlbmlimaobkhpaaHb
import Derived.Test.YtlbmlimaobkhpaaRf
import Derived.Test.YtlbmlimaobkhpaaHc
import Derived.Test.YtlbmlimaobkhpaaHd
import Derived.Test.YtlbmlimaobkhpaaHe
set_option linter.unusedVariables false
set_option linter.unusedSimpArgs false
set_option linter.unusedSectionVars false
/- The reference's books: adding. -/
namespace Go.Proofs.Ytlbmlimaobkhpaa
open Go Go.Gv
set_option maxRecDepth 100000
set_option maxHeartbeats 4000000
set_option linter.unusedSimpArgs false
set_option linter.unusedVariables false

theorem BE.same {r : Dr} {b : Br} {S : DB} {X : Value} (hk : bOk r S.1 b S.2) : BE r b S X X (eH r S.1 b S.2) := ⟨r, b, rfl, rfl, hk, rfl, rfl⟩
theorem f71 (r : Dr) (b : Br) (S : DB) (B : Nat) (e : En) (hw : enW e) (hS : okS B S) (hB : B + 20 < 1000000000) (hu : S.2.falls = S.1.falls → S.1.off = false) (hk : bOk r S.1 b S.2) (h : View) :
    GSpec Try.prog 71 [pP b.p, .agg ⟨enV e⟩] h (eH r S.1 b S.2) (fun v _ O' => BE r b (addV S e).1 (.int .i64 (addV S e).2) v O') := by
  have hlg := hk.logs
  have hlen := logs_len b
  have hwb : wfL b.logs := by rw [hlg]; exact hS.wf
  have hb8 := hwb.len
  have e131 := fun h => f131 b.p (bkV b) r S.1 S.2.at_ S.2.falls (lgc b :: lgHp b.ls) h
  have hbl := hw.2.2
  by_cases h0 : S.2.falls ≠ S.1.falls
  · have e1 : addV S e = (S, 93) := if_pos h0
    rw [decide_eq_true (p := S.2.falls ≠ S.1.falls ∨ S.1.off = true) (.inl h0)] at e131
    rw [e1]
    refine GSpec.enter (fn := Try.f71) Try.func71 rfl (by kernel_rfl) ?_
    repeat' (conv => whnf
             first
             | ((with_reducible refine CallSt.rd (f := 131) (X := .bool true) ?_ ?_); (· exact GSpec.locRet (H := eH r S.1 b S.2) (by (repeat (first | with_reducible exact Loc.last | with_reducible apply Loc.tl))) (e131 _)))
             | (with_reducible refine NextSt.mk ?_)
             | (with_reducible refine OnBB.tt ?_)
             | ((with_reducible refine AllocSt.mk ?_); intro _b _hb _hbO))
    refine FinSt.own (R := BE r b S (.int .i64 93)) (O1 := eH r S.1 b S.2) (by (try dsimp only); (try simp only [List.cons_append, List.nil_append]); (repeat (first | with_reducible exact List.Sublist.refl _ | with_reducible apply List.Sublist.cons))) ?_
    exact BE.same hk
  · have hup : S.2.falls = S.1.falls := Decidable.not_not.1 h0
    have ho := hu hup
    rw [decide_eq_false (p := S.2.falls ≠ S.1.falls ∨ S.1.off = true) (fun x => x.elim h0 fun x => by rw [ho] at x; cases x)] at e131
    by_cases h1 : enOk e
    · have e83 := fun h O => f83 e hbl h O
      rw [show chkE e = 0 from if_pos h1] at e83
      by_cases h2 : e.office.toNat < b.ls.length
      · have hg := logs_get h2
        have hq := hk.ls.get h2
        have hr := lgHp_rd hk.ls h2 (w := h)
        have hlg2 := hwb.log e.office.toNat (by omega)
        rw [hg] at hlg2
        have hen := hwb.en e.office.toNat (by omega) e.no.toNat
        rw [hg] at hen
        have e1 : addV S e = if e.no.toNat < (b.ls.getD e.office.toNat default).2.length ∧ (b.ls.getD e.office.toNat default).2.getD e.no.toNat default = e then (S, 0) else if e.no.toNat ≠ (b.ls.getD e.office.toNat default).2.length then (S, 92) else putV S e := by
          unfold addV
          rw [if_neg (show ¬ downV S from h0), if_neg (fun x => x ⟨h1, by rw [← hlg]; omega⟩), ← hlg, hg]
        have e132 := fun hc h => f132 r b S B e hS hB ⟨hup, ho⟩ hk hc h
        rw [e1]
        have hcv : chg S.2.logs e ↔ (e.no.toNat = (b.ls.getD e.office.toNat default).2.length ∨ e.no.toNat < (b.ls.getD e.office.toNat default).2.length ∧ Op.bytesLess e.body ((b.ls.getD e.office.toNat default).2.getD e.no.toNat default).body = true) := by
          unfold chg; rw [← hlg, hg]; exact ⟨fun x => x.2.2, fun x => ⟨h1, by omega, x⟩⟩
        clear e1
        obtain ⟨o, n, bo⟩ := e
        obtain ⟨a1, a2, a3, a4, a5⟩ := id h1
        simp only at a1 a2 a3 a4 a5 h2 hg hq hr hlg2 hen hcv hbl
        obtain ⟨o, rfl⟩ := nat_of a1
        obtain ⟨n, rfl⟩ := nat_of a3
        simp only [Int.toNat_natCast] at h2 hg hq hr hlg2 hen hcv ⊢
        by_cases h3 : n < (b.ls.getD o default).2.length
        · have hen2 := (hen h3).1.w
          by_cases h4 : (b.ls.getD o default).2.getD n default = ⟨o, n, bo⟩
          · rw [if_pos ⟨h3, h4⟩]
            refine GSpec.enter (fn := Try.f71) Try.func71 rfl (by kernel_rfl) ?_
            repeat' (conv => whnf
                     first
                     | ((with_reducible refine CallSt.rd (f := 131) (X := .bool false) ?_ ?_); (· exact GSpec.locRet (H := eH r S.1 b S.2) (by (repeat (first | with_reducible exact Loc.last | with_reducible apply Loc.tl))) (e131 _)))
                     | ((with_reducible refine CallG.rd (f := 83) (X := .int .i64 0) ?_ ?_); (· exact e83 _ _))
                     | (((with_reducible apply LoadSt.ownd (g := slV)); (· (repeat (first | exact List.Mem.head _ | with_reducible apply List.mem_append_right | with_reducible apply List.mem_cons_of_mem))); (· (exact Nat.zero_add _)); (· (omega))))
                     | ((refine eq70 (f := ⟨o, n, bo⟩) hen2 hw ?_); rw [decide_eq_true h4])
                     | ((with_reducible refine DrawSt.walk [0, 1, 2, 3, 4, 5, 6, 7, 8, 9, 10, 11, 12] mixed ?_ ?_); · decide +kernel)
                     | ((with_reducible refine DrawSt.walk [0, 1, 2, 3, 4, 5, 6, 7, 8] mixed ?_ ?_); · decide +kernel)
                     | ((with_reducible refine DrawSt.walk [0, 1, 2, 3, 4, 5, 6, 7, 8, 9, 10, 11, 12, 13] mixed ?_ ?_); · decide +kernel)
                     | ((with_reducible apply LoadSt.rdg (g := enV) (s := 3)); (· rfl); (· (repeat (first | with_reducible assumption | with_reducible apply Rd.cons | with_reducible apply Rd.appR))); (· exact fun _ => rfl); (· decide); · (omega))
                     | ((with_reducible apply IdxSl.bufm (s := 3)); (· with_reducible assumption); (· rfl); (· rfl); (· with_reducible rfl); · (omega))
                     | (with_reducible refine NextSt.mk ?_)
                     | (with_reducible refine OnBB.tt ?_)
                     | (with_reducible refine OnBB.ff ?_)
                     | ((with_reducible apply Cmp.no); · omega)
                     | ((with_reducible apply LoadSt.box); · (repeat (first | exact List.Mem.head _ | with_reducible apply List.mem_append_right | with_reducible apply List.mem_cons_of_mem)))
                     | ((with_reducible apply LoadSt.boxAgg); · (repeat (exact List.Mem.head _)))
                     | ((with_reducible refine AllocSt.mk ?_); intro _b _hb _hbO)
                     | ((with_reducible apply IdxSl.own1); (· rfl); (· with_reducible rfl); · (omega))
                     | ((with_reducible apply Cmp.yes); · (dsimp only; omega))
                     | ((with_reducible apply Cmp.no); · (dsimp only; omega)))
            refine FinSt.own (R := BE r b S (.int .i64 0)) (O1 := eH r S.1 b S.2) (by (try dsimp only); (try simp only [List.cons_append, List.nil_append]); (repeat (first | with_reducible exact List.Sublist.refl _ | with_reducible apply List.Sublist.cons))) ?_
            exact BE.same hk
          · rw [if_neg (fun x => h4 x.2), if_pos (by omega)]
            refine GSpec.enter (fn := Try.f71) Try.func71 rfl (by kernel_rfl) ?_
            repeat' (conv => whnf
                     first
                     | ((with_reducible refine CallSt.rd (f := 131) (X := .bool false) ?_ ?_); (· exact GSpec.locRet (H := eH r S.1 b S.2) (by (repeat (first | with_reducible exact Loc.last | with_reducible apply Loc.tl))) (e131 _)))
                     | ((with_reducible refine CallG.rd (f := 83) (X := .int .i64 0) ?_ ?_); (· exact e83 _ _))
                     | (((with_reducible apply LoadSt.ownd (g := slV)); (· (repeat (first | exact List.Mem.head _ | with_reducible apply List.mem_append_right | with_reducible apply List.mem_cons_of_mem))); (· (exact Nat.zero_add _)); (· (omega))))
                     | ((refine eq70 (f := ⟨o, n, bo⟩) hen2 hw ?_); rw [decide_eq_false h4])
                     | ((with_reducible refine DrawSt.walk [0, 1, 2, 3, 4, 5, 6, 7, 8, 9, 10, 11, 12] mixed ?_ ?_); · decide +kernel)
                     | ((with_reducible refine DrawSt.walk [0, 1, 2, 3, 4, 5, 6, 7, 8] mixed ?_ ?_); · decide +kernel)
                     | ((with_reducible refine DrawSt.walk [0, 1, 2, 3, 4, 5, 6, 7, 8, 9, 10, 11, 12, 13] mixed ?_ ?_); · decide +kernel)
                     | ((with_reducible apply LoadSt.rdg (g := enV) (s := 3)); (· rfl); (· (repeat (first | with_reducible assumption | with_reducible apply Rd.cons | with_reducible apply Rd.appR))); (· exact fun _ => rfl); (· decide); · (omega))
                     | ((with_reducible apply IdxSl.bufm (s := 3)); (· with_reducible assumption); (· rfl); (· rfl); (· with_reducible rfl); · (omega))
                     | (with_reducible refine NextSt.mk ?_)
                     | (with_reducible refine OnBB.tt ?_)
                     | (with_reducible refine OnBB.ff ?_)
                     | ((with_reducible apply Cmp.no); · omega)
                     | ((with_reducible apply LoadSt.box); · (repeat (first | exact List.Mem.head _ | with_reducible apply List.mem_append_right | with_reducible apply List.mem_cons_of_mem)))
                     | ((with_reducible apply LoadSt.boxAgg); · (repeat (exact List.Mem.head _)))
                     | ((with_reducible refine AllocSt.mk ?_); intro _b _hb _hbO)
                     | ((with_reducible apply IdxSl.own1); (· rfl); (· with_reducible rfl); · (omega))
                     | ((with_reducible apply Cmp.yes); · (dsimp only; omega))
                     | ((with_reducible apply Cmp.no); · (dsimp only; omega)))
            refine FinSt.own (R := BE r b S (.int .i64 92)) (O1 := eH r S.1 b S.2) (by (try dsimp only); (try simp only [List.cons_append, List.nil_append]); (repeat (first | with_reducible exact List.Sublist.refl _ | with_reducible apply List.Sublist.cons))) ?_
            exact BE.same hk
        · rw [if_neg (fun x => h3 x.1)]
          by_cases h4 : n = (b.ls.getD o default).2.length
          · rw [if_neg (fun x => x h4)]
            refine GSpec.enter (fn := Try.f71) Try.func71 rfl (by kernel_rfl) ?_
            repeat' (conv => whnf
                     first
                     | ((with_reducible refine CallSt.rd (f := 131) (X := .bool false) ?_ ?_); (· exact GSpec.locRet (H := eH r S.1 b S.2) (by (repeat (first | with_reducible exact Loc.last | with_reducible apply Loc.tl))) (e131 _)))
                     | ((with_reducible refine CallG.rd (f := 83) (X := .int .i64 0) ?_ ?_); (· exact e83 _ _))
                     | (((with_reducible apply LoadSt.ownd (g := slV)); (· (repeat (first | exact List.Mem.head _ | with_reducible apply List.mem_append_right | with_reducible apply List.mem_cons_of_mem))); (· (exact Nat.zero_add _)); (· (omega))))
                     | ((with_reducible apply CallSt.loc (f := 132) (H := eH r S.1 b S.2) (R := BE r b (putV S ⟨o, n, bo⟩).1 (.int .i64 (putV S ⟨o, n, bo⟩).2))); (· (repeat (first | with_reducible exact Loc.last | with_reducible apply Loc.tl))); (· exact e132 (hcv.2 (.inl h4)) _); rintro _ _ ⟨r', b', hr1, hb1, hk2, rfl, rfl⟩)
                     | ((with_reducible refine DrawSt.walk [0, 1, 2, 3, 4, 5, 6, 7, 8, 9, 10, 11, 12] mixed ?_ ?_); · decide +kernel)
                     | ((with_reducible refine DrawSt.walk [0, 1, 2, 3, 4, 5, 6, 7, 8] mixed ?_ ?_); · decide +kernel)
                     | ((with_reducible refine DrawSt.walk [0, 1, 2, 3, 4, 5, 6, 7, 8, 9, 10, 11, 12, 13] mixed ?_ ?_); · decide +kernel)
                     | (with_reducible refine NextSt.mk ?_)
                     | (with_reducible refine OnBB.ff ?_)
                     | ((with_reducible apply Cmp.no); · omega)
                     | ((with_reducible apply LoadSt.box); · (repeat (first | exact List.Mem.head _ | with_reducible apply List.mem_append_right | with_reducible apply List.mem_cons_of_mem)))
                     | ((with_reducible apply LoadSt.boxAgg); · (repeat (exact List.Mem.head _)))
                     | ((with_reducible refine AllocSt.mk ?_); intro _b _hb _hbO)
                     | ((with_reducible apply IdxSl.own1); (· rfl); (· with_reducible rfl); · (omega))
                     | ((with_reducible apply Cmp.no); · (dsimp only; omega)))
            refine FinSt.own (R := BE r b _ (.int .i64 (putV S ⟨o, n, bo⟩).2)) (O1 := eH r' _ b' _) (by (try dsimp only); (try simp only [List.cons_append, List.nil_append]); (repeat (first | with_reducible exact List.Sublist.refl _ | with_reducible apply List.Sublist.cons))) ?_
            exact ⟨r', b', hr1, hb1, hk2, rfl, rfl⟩
          · rw [if_pos h4]
            refine GSpec.enter (fn := Try.f71) Try.func71 rfl (by kernel_rfl) ?_
            repeat' (conv => whnf
                     first
                     | ((with_reducible refine CallSt.rd (f := 131) (X := .bool false) ?_ ?_); (· exact GSpec.locRet (H := eH r S.1 b S.2) (by (repeat (first | with_reducible exact Loc.last | with_reducible apply Loc.tl))) (e131 _)))
                     | ((with_reducible refine CallG.rd (f := 83) (X := .int .i64 0) ?_ ?_); (· exact e83 _ _))
                     | (((with_reducible apply LoadSt.ownd (g := slV)); (· (repeat (first | exact List.Mem.head _ | with_reducible apply List.mem_append_right | with_reducible apply List.mem_cons_of_mem))); (· (exact Nat.zero_add _)); (· (omega))))
                     | ((with_reducible refine DrawSt.walk [0, 1, 2, 3, 4, 5, 6, 7, 8, 9, 10, 11, 12] mixed ?_ ?_); · decide +kernel)
                     | ((with_reducible refine DrawSt.walk [0, 1, 2, 3, 4, 5, 6, 7, 8] mixed ?_ ?_); · decide +kernel)
                     | ((with_reducible refine DrawSt.walk [0, 1, 2, 3, 4, 5, 6, 7, 8, 9, 10, 11, 12, 13] mixed ?_ ?_); · decide +kernel)
                     | (with_reducible refine NextSt.mk ?_)
                     | (with_reducible refine OnBB.tt ?_)
                     | (with_reducible refine OnBB.ff ?_)
                     | ((with_reducible apply Cmp.no); · omega)
                     | ((with_reducible apply LoadSt.box); · (repeat (first | exact List.Mem.head _ | with_reducible apply List.mem_append_right | with_reducible apply List.mem_cons_of_mem)))
                     | ((with_reducible apply LoadSt.boxAgg); · (repeat (exact List.Mem.head _)))
                     | ((with_reducible refine AllocSt.mk ?_); intro _b _hb _hbO)
                     | ((with_reducible apply IdxSl.own1); (· rfl); (· with_reducible rfl); · (omega))
                     | ((with_reducible apply Cmp.yes); · (dsimp only; omega))
                     | ((with_reducible apply Cmp.no); · (dsimp only; omega)))
            refine FinSt.own (R := BE r b S (.int .i64 92)) (O1 := eH r S.1 b S.2) (by (try dsimp only); (try simp only [List.cons_append, List.nil_append]); (repeat (first | with_reducible exact List.Sublist.refl _ | with_reducible apply List.Sublist.cons))) ?_
            exact BE.same hk
      · have e1 : addV S e = (S, 92) := by unfold addV; rw [if_neg (show ¬ downV S from h0), if_pos (fun x => h2 (by rw [← hlen, hlg]; exact x.2))]
        have a1 := h1.1
        rw [e1]
        refine GSpec.enter (fn := Try.f71) Try.func71 rfl (by kernel_rfl) ?_
        repeat' (conv => whnf
                 first
                 | ((with_reducible refine CallSt.rd (f := 131) (X := .bool false) ?_ ?_); (· exact GSpec.locRet (H := eH r S.1 b S.2) (by (repeat (first | with_reducible exact Loc.last | with_reducible apply Loc.tl))) (e131 _)))
                 | ((with_reducible refine CallG.rd (f := 83) (X := .int .i64 0) ?_ ?_); (· exact e83 _ _))
                 | ((with_reducible refine DrawSt.walk [0, 1, 2, 3, 4, 5, 6, 7, 8, 9, 10, 11, 12] mixed ?_ ?_); · decide +kernel)
                 | (with_reducible refine NextSt.mk ?_)
                 | (with_reducible refine OnBB.tt ?_)
                 | (with_reducible refine OnBB.ff ?_)
                 | ((with_reducible apply Cmp.yes); · omega)
                 | ((with_reducible apply Cmp.no); · omega)
                 | ((with_reducible apply LoadSt.box); · (repeat (first | exact List.Mem.head _ | with_reducible apply List.mem_append_right | with_reducible apply List.mem_cons_of_mem)))
                 | ((with_reducible apply LoadSt.boxAgg); · (repeat (exact List.Mem.head _)))
                 | ((with_reducible refine AllocSt.mk ?_); intro _b _hb _hbO))
        refine FinSt.own (R := BE r b S (.int .i64 92)) (O1 := eH r S.1 b S.2) (by (try dsimp only); (try simp only [List.cons_append, List.nil_append]); (repeat (first | with_reducible exact List.Sublist.refl _ | with_reducible apply List.Sublist.cons))) ?_
        exact BE.same hk
    · have e1 : addV S e = (S, 92) := by unfold addV; rw [if_neg (show ¬ downV S from h0), if_pos (fun x => h1 x.1)]
      have e83 := fun h O => f83 e hbl h O
      rw [show chkE e = 92 from if_neg h1] at e83
      rw [e1]
      refine GSpec.enter (fn := Try.f71) Try.func71 rfl (by kernel_rfl) ?_
      repeat' (conv => whnf
               first
               | ((with_reducible refine CallSt.rd (f := 131) (X := .bool false) ?_ ?_); (· exact GSpec.locRet (H := eH r S.1 b S.2) (by (repeat (first | with_reducible exact Loc.last | with_reducible apply Loc.tl))) (e131 _)))
               | ((with_reducible refine CallG.rd (f := 83) (X := .int .i64 92) ?_ ?_); (· exact e83 _ _))
               | ((with_reducible refine DrawSt.walk [0, 1, 2, 3, 4, 5, 6, 7, 8, 9, 10, 11, 12] mixed ?_ ?_); · decide +kernel)
               | (with_reducible refine NextSt.mk ?_)
               | (with_reducible refine OnBB.tt ?_)
               | (with_reducible refine OnBB.ff ?_)
               | ((with_reducible apply Cmp.yes); · omega)
               | ((with_reducible apply LoadSt.boxAgg); · (repeat (exact List.Mem.head _)))
               | ((with_reducible refine AllocSt.mk ?_); intro _b _hb _hbO))
      refine FinSt.own (R := BE r b S (.int .i64 92)) (O1 := eH r S.1 b S.2) (by (try dsimp only); (try simp only [List.cons_append, List.nil_append]); (repeat (first | with_reducible exact List.Sublist.refl _ | with_reducible apply List.Sublist.cons))) ?_
      exact BE.same hk
end Go.Proofs.Ytlbmlimaobkhpaa
/- Books asked for what is none of theirs. -/
namespace Go.Proofs.Ytlbmlimaobkhpaa
open Go Go.Gv
set_option maxRecDepth 100000
set_option maxHeartbeats 4000000
set_option linter.unusedSimpArgs false
set_option linter.unusedVariables false
theorem f62e (w : Nat) (b : Br) (K : Bk) (n : Int) (hn : ¬ (0 ≤ n ∧ n < (K.logs.length : Nat))) (h8 : K.logs.length ≤ 8) (hk : kOk b K) (h : View) : GSpec Try.prog 62 [pP b.p, .int .i64 n] h (kH w b K) (Ret (kH w b K) (.tuple ⟨[.slice none 0 0, .int .i64 1]⟩)) := by
  have hlen := logs_len b
  rw [← hk.logs] at hn h8
  rw [hlen] at hn
  refine GSpec.enter (fn := Try.f62) Try.func62 rfl (by kernel_rfl) ?_
  repeat' (conv => whnf
           first
           | ((with_reducible apply CallSt.decN (f := 93)); (· (apply GSpec.cast (sp := f93 _ _ _ _); (· (repeat' (with_reducible rfl))); all_goals (fail))); · omega)
           | (with_reducible refine NextSt.mk ?_)
           | (with_reducible refine OnBB.tt ?_)
           | (with_reducible refine OnBB.ff ?_)
           | ((with_reducible apply LoadSt.box); · (repeat (exact List.Mem.head _))))
  conv => whnf
  refine FinSt.ret (by (try dsimp only); (try simp only [List.cons_append, List.nil_append]); (repeat (with_reducible exact List.Sublist.refl _))) ?_
  rfl
theorem f129e (w : Nat) (b : Br) (K : Bk) (n : Int) (hn : ¬ (0 ≤ n ∧ n < (K.logs.length : Nat))) (h8 : K.logs.length ≤ 8) (h1 : 1 ≤ K.logs.length) (hk : kOk b K) (h : View) : GSpec Try.prog 129 [pP b.p, .int .i64 n] h (kE w b K) (Ret (kE w b K) (.tuple ⟨[.slice none 0 0, .int .i64 1]⟩)) := by
  have hlen := logs_len b
  rw [← hk.logs] at hn h8 h1
  rw [hlen] at hn h1
  refine GSpec.enter (fn := Try.f129) Try.func129 rfl (by kernel_rfl) ?_
  repeat' (conv => whnf
           first
           | ((with_reducible apply CallSt.decN (f := 94)); (· (apply GSpec.cast (sp := f94 _ _ _ _ _); (· (repeat' (with_reducible rfl))); all_goals (fail))); · omega)
           | (with_reducible refine NextSt.mk ?_)
           | (with_reducible refine OnBB.tt ?_)
           | (with_reducible refine OnBB.ff ?_)
           | ((with_reducible apply NW.subN); (· with_reducible rfl); (· exact natL _); (· omega))
           | ((with_reducible apply LoadSt.box); · (repeat (exact List.Mem.head _))))
  conv => whnf
  refine FinSt.ret (by (try dsimp only); (try simp only [List.cons_append, List.nil_append]); (repeat (with_reducible exact List.Sublist.refl _))) ?_
  rfl
theorem f58e (w : Nat) (b : Br) (K : Bk) (a1 a2 : Option Addr) (m1 c1 m2 c2 : Nat) (hm : m2 ≠ K.logs.length) (h8 : K.logs.length ≤ 8) (hk : kOk b K) (h : View) : GSpec Try.prog 58 [pP b.p, .agg ⟨[.slice a1 m1 c1, .slice a2 m2 c2]⟩] h (kH w b K) (Ret (kH w b K) (.tuple ⟨[.slice none 0 0, .int .i64 1]⟩)) := by
  have hlen := logs_len b
  rw [← hk.logs, hlen] at hm h8
  by_cases h1 : m1 = b.ls.length
  · refine GSpec.enter (fn := Try.f58) Try.func58 rfl (by kernel_rfl) ?_
    repeat' (conv => whnf
             first
             | ((with_reducible refine DrawSt.walk [0, 1, 2, 3, 4, 5, 6, 7, 8, 9, 10, 11, 12, 13, 14, 15, 16, 17, 18, 19, 20, 21, 22, 23, 24] mixed ?_ ?_); · decide +kernel)
             | (with_reducible refine NextSt.mk ?_)
             | (with_reducible refine OnBB.tt ?_)
             | (with_reducible refine OnBB.ff ?_)
             | ((with_reducible apply Cmp.yes); · omega)
             | ((with_reducible apply Cmp.no); · omega)
             | ((with_reducible apply LoadSt.box); · (repeat (first | exact List.Mem.head _ | with_reducible apply List.mem_cons_of_mem)))
             | ((with_reducible refine AllocSt.mk ?_); intro _b _hb _hbO))
    conv => whnf
    refine FinSt.ret (by (try dsimp only); (try simp only [List.cons_append, List.nil_append]); (repeat (first | with_reducible exact List.Sublist.refl _ | with_reducible apply List.Sublist.cons))) ?_
    rfl
  · refine GSpec.enter (fn := Try.f58) Try.func58 rfl (by kernel_rfl) ?_
    repeat' (conv => whnf
             first
             | ((with_reducible refine DrawSt.walk [0, 1, 2, 3, 4, 5, 6, 7, 8, 9, 10, 11, 12, 13, 14, 15, 16, 17, 18, 19, 20, 21, 22, 23, 24] mixed ?_ ?_); · decide +kernel)
             | (with_reducible refine NextSt.mk ?_)
             | (with_reducible refine OnBB.tt ?_)
             | ((with_reducible apply Cmp.yes); · omega)
             | ((with_reducible apply LoadSt.box); · (repeat (first | exact List.Mem.head _ | with_reducible apply List.mem_cons_of_mem)))
             | ((with_reducible refine AllocSt.mk ?_); intro _b _hb _hbO))
    conv => whnf
    refine FinSt.ret (by (try dsimp only); (try simp only [List.cons_append, List.nil_append]); (repeat (first | with_reducible exact List.Sublist.refl _ | with_reducible apply List.Sublist.cons))) ?_
    rfl
theorem f130e (w : Nat) (b : Br) (K : Bk) (a1 a2 : Option Addr) (m1 c1 m2 c2 : Nat) (hm : m2 ≠ K.logs.length) (h8 : K.logs.length ≤ 8) (hk : kOk b K) (h : View) : GSpec Try.prog 130 [pP b.p, .agg ⟨[.slice a1 m1 c1, .slice a2 m2 c2]⟩] h (kE w b K) (Ret (kE w b K) (.tuple ⟨[.slice none 0 0, .int .i64 1]⟩)) := by
  have hlen := logs_len b
  rw [← hk.logs, hlen] at hm h8
  by_cases h1 : m1 = b.ls.length
  · refine GSpec.enter (fn := Try.f130) Try.func130 rfl (by kernel_rfl) ?_
    repeat' (conv => whnf
             first
             | ((with_reducible refine DrawSt.walk [0, 1, 2, 3, 4, 5, 6, 7, 8, 9, 10, 11, 12, 13, 14, 15, 16, 17, 18, 19] mixed ?_ ?_); · decide +kernel)
             | (with_reducible refine NextSt.mk ?_)
             | (with_reducible refine OnBB.tt ?_)
             | (with_reducible refine OnBB.ff ?_)
             | ((with_reducible apply Cmp.yes); · omega)
             | ((with_reducible apply Cmp.no); · omega)
             | ((with_reducible apply LoadSt.box); · (repeat (first | exact List.Mem.head _ | with_reducible apply List.mem_cons_of_mem)))
             | ((with_reducible refine AllocSt.mk ?_); intro _b _hb _hbO))
    conv => whnf
    refine FinSt.ret (by (try dsimp only); (try simp only [List.cons_append, List.nil_append]); (repeat (first | with_reducible exact List.Sublist.refl _ | with_reducible apply List.Sublist.cons))) ?_
    rfl
  · refine GSpec.enter (fn := Try.f130) Try.func130 rfl (by kernel_rfl) ?_
    repeat' (conv => whnf
             first
             | ((with_reducible refine DrawSt.walk [0, 1, 2, 3, 4, 5, 6, 7, 8, 9, 10, 11, 12, 13, 14, 15, 16, 17, 18, 19] mixed ?_ ?_); · decide +kernel)
             | (with_reducible refine NextSt.mk ?_)
             | (with_reducible refine OnBB.tt ?_)
             | ((with_reducible apply Cmp.yes); · omega)
             | ((with_reducible apply LoadSt.box); · (repeat (first | exact List.Mem.head _ | with_reducible apply List.mem_cons_of_mem)))
             | ((with_reducible refine AllocSt.mk ?_); intro _b _hb _hbO))
    conv => whnf
    refine FinSt.ret (by (try dsimp only); (try simp only [List.cons_append, List.nil_append]); (repeat (first | with_reducible exact List.Sublist.refl _ | with_reducible apply List.Sublist.cons))) ?_
    rfl
end Go.Proofs.Ytlbmlimaobkhpaa
/- The laws' helpers: equal books, asked with whatever number. -/
namespace Go.Proofs.Ytlbmlimaobkhpaa
open Go Go.Gv
set_option maxRecDepth 100000
set_option maxHeartbeats 16000000
set_option linter.unusedSimpArgs false
set_option linter.unusedVariables false
/-- What a book answers that is asked for an office. -/
def entI (L : List (List En)) (n : Int) : List En × Int := if 0 ≤ n ∧ n < (L.length : Nat) then (L.getD n.toNat [], 0) else ([], 1)
def RowX (x : List En × Int) (v : Value) (H : Hp) : Prop := ∃ B : Buf, v = .tuple ⟨[.slice B.a x.1.length B.cap, .int .i64 x.2]⟩ ∧ H = B.hp 70 (x.1.flatMap enV) ∧ B.ok 3 (x.1.flatMap enV) x.1.length
theorem RowX.none {O : Hp} : ∀ {f : FuncId} {args : List Value} {h : View}, GSpec Try.prog f args h O (Ret O (.tuple ⟨[.slice none 0 0, .int .i64 1]⟩)) → GSpec Try.prog f args h O (New O (RowX ([], 1))) := fun sp =>
  sp.mono fun v h' O' ⟨h1, h2⟩ => ⟨[], h1, Buf.nil, h2, rfl, Buf.nil_ok 3⟩
theorem entI_en {L : List (List En)} (hw : wfL L) (n : Int) : (entI L n).1.length ≤ 64 ∧ ∀ e ∈ (entI L n).1, enW e := by
  unfold entI
  split
  · exact ⟨hw.log _ (by omega), fun e he => (hw.mem (by omega) he).w⟩
  · exact ⟨by decide, fun e he => by cases he⟩
theorem f62x (w : Nat) (b : Br) (K : Bk) (n : Int) (hw : wfL K.logs) (hk : kOk b K) (h : View) : GSpec Try.prog 62 [pP b.p, .int .i64 n] h (kH w b K) (New (kH w b K) (RowX (entI K.logs n))) := by
  unfold entI
  split
  · rename_i hn
    obtain ⟨p, rfl⟩ := nat_of hn.1
    rw [Int.toNat_natCast]
    exact f62 w b K p (by omega) hw hk h
  · rename_i hn
    exact RowX.none (f62e w b K n hn hw.len hk h)
theorem f129x (w : Nat) (b : Br) (K : Bk) (n : Int) (hw : wfL K.logs) (h1 : 1 ≤ K.logs.length) (hk : kOk b K) (h : View) : GSpec Try.prog 129 [pP b.p, .int .i64 n] h (kE w b K) (New (kE w b K) (RowX (entI K.logs n))) := by
  unfold entI
  split
  · rename_i hn
    obtain ⟨p, rfl⟩ := nat_of hn.1
    rw [Int.toNat_natCast]
    exact f129 w b K p (by omega) hw hk h
  · rename_i hn
    exact RowX.none (f129e w b K n hn hw.len h1 hk h)
theorem wantI_sub {L : List (List En)} {ns : List Int} {us : List Nat} {e : En} : ∀ {k : Nat}, e ∈ wantI L ns us k → e ∈ L.flatten
  | 0, h => by cases h
  | k + 1, h => by
    unfold wantI at h
    rcases List.mem_append.1 h with h | h
    · exact wantI_sub h
    · have h2 := List.mem_of_mem_drop h
      by_cases hk : k < L.length
      · rw [List.getD_eq_getElem?_getD, List.getElem?_eq_getElem hk] at h2
        exact List.mem_flatten.2 ⟨_, List.getElem_mem hk, h2⟩
      · rw [List.getD_eq_getElem?_getD, List.getElem?_eq_none (by omega)] at h2
        cases h2
theorem DivSt.tm {k : IntKind} {a b : Int} {K : Value → Prop} (h : b ≠ 0) (hk : K (.int k (a.tmod b))) : DivSt .rem k a b K := ⟨h, hk⟩
theorem NW.inc {u : Nat} {K : Value → Prop} (hk : K (uN ((u + 1) % 18446744073709551616))) : NW .u64 ((u : Int) + 1) K := by
  refine ⟨?_⟩
  have : IntKind.u64.wrap ((u : Int) + 1) = (((u + 1) % 18446744073709551616 : Nat) : Int) := by
    simp [IntKind.wrap, IntKind.bits, IntKind.signed]
  rw [this]; exact hk
theorem f67 (r1 r2 : Dr) (b1 b2 : Br) (S1 S2 : DB) (n : Int) (O : Hp) {φ ψ : Hp → Hp} (l1 : Gv.Loc O (bH r1 S1.1 b1 S1.2) φ) (l2 : Gv.Loc O (eH r2 S2.1 b2 S2.2) ψ) (hw : wfL S1.2.logs) (hL : S2.2.logs = S1.2.logs) (h1 : 1 ≤ S1.2.logs.length) (hk1 : bOk r1 S1.1 b1 S1.2) (hk2 : bOk r2 S2.1 b2 S2.2) (h : View) :
    GSpec Try.prog 67 [pP b1.p, pP b2.p, .int .i64 n] h O (Ret O (.bool true)) := by
  have hw2 : wfL S2.2.logs := by rw [hL]; exact hw
  have w1 := hw.flat
  have m1 := hw.len
  have l2k := l2.into (Gv.Loc.skip (G := eHp r2 S2.1) Gv.Loc.last)
  obtain ⟨hx64, hen⟩ := entI_en hw n
  have e112 := fun (A3 B3 A4 B4 : Buf) O hs ht => f112 ⟨A3.a, A3.cap, S1.2.logs.map fun q => (q.length : Int), B3.a, B3.cap, S1.2.logs.map sumL⟩ ⟨A4.a, A4.cap, S1.2.logs.map fun q => (q.length : Int), B4.a, B4.cap, S1.2.logs.map sumL⟩ h O hs ht
  have edt : decide (S1.2.logs.map (fun q => (q.length : Int)) = S1.2.logs.map (fun q => (q.length : Int)) ∧ S1.2.logs.map sumL = S1.2.logs.map sumL) = true := decide_eq_true ⟨rfl, rfl⟩
  simp only [edt] at e112
  simp only [tyV, List.length_map] at e112
  have e126 := f126 r2.p b2 S2.2 hw2 hk2.k h
  have e127 := f127 r2.p b2 S2.2 hw2 hk2.k h
  have e129 := f129x r2.p b2 S2.2 n hw2 (by rw [hL]; exact h1) hk2.k h
  have hb2 : b2.ls.length = S1.2.logs.length := by rw [← hL, ← hk2.logs, logs_len]
  have e128 := f128 b2 r2.p S2.2.at_ S2.2.falls h
  rw [hb2] at e128
  rw [hL] at e126 e127 e129
  have e62 := fun h => f62x r1.p b1 S1.2 n hw hk1.k h
  generalize entI S1.2.logs n = ei at *
  refine GSpec.enter (fn := Try.f67) Try.func67 rfl (by kernel_rfl) ?_
  repeat' (conv => whnf
           first
           | ((apply CallSt.new (R := TyR S1.2.logs); (· (apply GSpec.locNew (H := bH r1 S1.1 b1 S1.2)); (· exact l1); (· exact f59 r1 b1 S1 hw hk1 _)); rintro _ _ ⟨A3, B3, rfl, rfl, hA3, hB3⟩))
           | ((apply CallG.new (R := TyR S1.2.logs); (· (apply GSpec.locNew (H := kE r2.p b2 S2.2)); (· repeat (first | exact l2k | with_reducible apply Gv.Loc.tl | with_reducible apply Gv.Loc.skip)); (· exact e126)); rintro _ _ ⟨A4, B4, rfl, rfl, hA4, hB4⟩))
           | (((with_reducible refine CallG.rd (f := 112) (X := .bool true) ?_ ?_); (· exact e112 A3 B3 A4 B4 _ ⟨Rd.appR (Rd.cons (Rd.appL (Rd.appL (Buf.rd hA3)))), Rd.appR (Rd.cons (Rd.appL (Rd.appR (Buf.rd hB3)))), by simp only [List.length_map]; omega, by simp only [List.length_map]; omega⟩ ⟨Rd.appL (Rd.appL (Buf.rd hA4)), Rd.appL (Rd.appR (Buf.rd hB4)), by simp only [List.length_map]; omega, by simp only [List.length_map]; omega⟩)))
           | ((apply CallG.new (R := RowR S1.2.logs.flatten); (· (apply GSpec.locNew (H := bH r1 S1.1 b1 S1.2)); (· repeat (first | exact l1 | with_reducible apply Gv.Loc.tl | with_reducible apply Gv.Loc.skip)); (· exact f57 r1 b1 S1 hw hk1 _)); rintro _ _ ⟨A1, rfl, rfl, hA1⟩))
           | ((apply CallG.new (R := RowR S1.2.logs.flatten); (· (apply GSpec.locNew (H := kE r2.p b2 S2.2)); (· repeat (first | exact l2k | with_reducible apply Gv.Loc.tl | with_reducible apply Gv.Loc.skip)); (· exact e127)); rintro _ _ ⟨A2, rfl, rfl, hA2⟩))
           | (((with_reducible refine CallG.rd (f := 60) (X := .bool true) ?_ ?_); (· rw [← decide_eq_true (rfl : S1.2.logs.flatten = S1.2.logs.flatten)]; exact f60 _ _ _ _ _ _ (by omega) (by omega) w1.1 w1.1 _ _ (Rd.appR (Rd.appL (Buf.rd hA1))) (Rd.appL (Buf.rd hA2)))))
           | (((with_reducible apply CallG.rd (f := 113)); (· (apply GSpec.locRet (H := bH r1 S1.1 b1 S1.2)); (· repeat (first | exact l1 | with_reducible apply Gv.Loc.tl | with_reducible apply Gv.Loc.skip)); (· exact f113 r1 S1.1 b1 S1.2 hk1 _))))
           | (((with_reducible apply CallG.rd (f := 128)); (· (apply GSpec.locRet (H := kE r2.p b2 S2.2)); (· repeat (first | exact l2k | with_reducible apply Gv.Loc.tl | with_reducible apply Gv.Loc.skip)); (· exact e128))))
           | ((with_reducible refine DrawSt.walk [0, 1, 2, 3, 4, 5, 6, 8, 7, 9, 10, 11, 12, 13, 14, 16, 15, 17, 18, 19] mixed ?_ ?_); · decide +kernel)
           | (with_reducible refine NextSt.mk ?_)
           | (with_reducible refine OnBB.tt ?_)
           | (with_reducible refine OnBB.ff ?_)
           | ((with_reducible apply Cmp.no); · omega)
           | ((with_reducible apply LoadSt.boxAgg); · (repeat (exact List.Mem.head _)))
           | ((with_reducible refine AllocSt.mk ?_); intro _b _hb _hbO)
           | ((with_reducible apply StoreSt.box); (· (repeat (exact Upd.hd))); (· rfl); (· rfl); (· rfl)))
  conv => whnf
  apply CallSt.new (R := RowX ei)
  · apply GSpec.locNew (H := bH r1 S1.1 b1 S1.2)
    · repeat (first | exact l1 | with_reducible apply Gv.Loc.tl | with_reducible apply Gv.Loc.skip)
    · exact GSpec.locNew (Gv.Loc.skip Gv.Loc.last) (e62 _)
  rintro _ _ ⟨X, rfl, rfl, hX⟩
  repeat' (conv => whnf
           first
           | (with_reducible refine NextSt.mk ?_))
  conv => whnf
  apply CallSt.new (R := RowX ei)
  · apply GSpec.locNew (H := kE r2.p b2 S2.2)
    · repeat (first | exact l2k | with_reducible apply Gv.Loc.tl | with_reducible apply Gv.Loc.skip)
    · exact e129
  rintro _ _ ⟨Y, rfl, rfl, hY⟩
  repeat' (conv => whnf
           first
           | (with_reducible refine NextSt.mk ?_))
  conv => whnf
  refine CallSt.rd (f := 60) (X := .bool true) ?_ ?_
  · rw [← decide_eq_true (rfl : ei.1 = ei.1)]
    exact f60 _ _ _ _ _ _ (by omega) (by omega) hen hen _ _ (Rd.appR (Rd.appL (Buf.rd hX))) (Rd.appL (Buf.rd hY))
  repeat' (conv => whnf
           first
           | (((with_reducible apply Cmp.no); · exact fun h => h rfl))
           | (with_reducible refine NextSt.mk ?_)
           | (with_reducible refine OnBB.tt ?_)
           | (with_reducible refine OnBB.ff ?_))
  conv => whnf
  obtain ⟨ns0, hns0⟩ : ∃ x, x = S1.2.logs.map fun q => (q.length : Int) := ⟨_, rfl⟩
  obtain ⟨us0, hus0⟩ : ∃ x, x = S1.2.logs.map sumL := ⟨_, rfl⟩
  have hp0 : ∀ x ∈ ns0, 0 ≤ x := by
    intro x hx
    rw [hns0] at hx
    obtain ⟨q, _, rfl⟩ := List.mem_map.1 hx
    omega
  have hl1 : ns0.length = S1.2.logs.length := by rw [hns0, List.length_map]
  have hl2 : us0.length = S1.2.logs.length := by rw [hus0, List.length_map]
  rw [← hns0] at hA3
  rw [← hus0] at hB3
  clear e112 edt
  rw [← hns0, ← hus0]
  clear hns0 hus0
  refine LoopSt.fix [12, 56, 57, 58, 59, 60, 61, 62, 63, 64, 65, 66, 67, 68, 69, 70, 71, 72, 73, 74, 75, 76, 77, 78, 79, 80, 81, 82, 83, 84, 85, 86, 87, 88] (fun ((i, _, _) : Nat × List Int × List Nat) => [(12, iN i)]) (fun (i, ns, us) => (_b, .cells ⟨[.slice A3.a S1.2.logs.length A3.cap, .slice B3.a S1.2.logs.length B3.cap]⟩ 81 (0, 0)) :: ((A3.hp 3 (ns.map zV) ++ B3.hp 108 (us.map uN)) ++ O)) (fun (i, ns, us) => i ≤ S1.2.logs.length ∧ ns.length = S1.2.logs.length ∧ us.length = S1.2.logs.length ∧ (∀ x ∈ ns, 0 ≤ x) ∧ A3.ok 1 (ns.map zV) S1.2.logs.length ∧ B3.ok 1 (us.map uN) S1.2.logs.length) (fun (i, _) => S1.2.logs.length - i) ((0, ns0, us0)) _ (Wk.drop (by (try dsimp only); (try simp only [List.cons_append, List.nil_append]); (repeat (first | with_reducible exact List.Sublist.refl _ | with_reducible apply sub_skip)))) (rfl) ?_ ?_ ?_
  · repeat' (first | exact True.intro | refine And.intro ?_ ?_ | rfl)
  · exact ⟨Nat.zero_le _, hl1, hl2, hp0, hA3, hB3⟩
  · rintro ⟨i, ns, us⟩ d3 ⟨hi, hn1, hn2, hp, hA, hB⟩
    dsimp only at hi hn1 hn2 hp hA hB ⊢
    by_cases hil : i < S1.2.logs.length
    · have hA9 : A3.ok 1 ((ns.set i (n.tmod 5)).map zV) S1.2.logs.length := by rw [List.map_set]; exact Buf.ok_set hA
      have hB9 : B3.ok 1 ((us.set i ((us.getD i default + 1) % 18446744073709551616)).map uN) S1.2.logs.length := by rw [List.map_set]; exact Buf.ok_set hB
      by_cases q2 : n.tmod 2 = 1
      · have hn0 : 0 ≤ n := by
          rcases Int.lt_or_le n 0 with hx | hx
          · exfalso
            have := Int.neg_tmod (-n) 2
            rw [Int.neg_neg] at this
            have h9 := Int.tmod_nonneg 2 (show 0 ≤ -n by omega)
            omega
          · exact hx
        have h5 : 0 ≤ n.tmod 5 := Int.tmod_nonneg 5 hn0
        have hp9 : ∀ x ∈ ns.set i (n.tmod 5), 0 ≤ x := fun x hx => (List.mem_or_eq_of_mem_set hx).elim (hp x) fun e => by rw [e]; exact h5
        by_cases q3 : n.tmod 3 = 1
        · repeat' (conv => whnf
                   first
                   | (((with_reducible apply DivSt.tm); · decide))
                   | (((with_reducible apply Cmp.yes); · exact q2))
                   | (((with_reducible apply Cmp.yes); · exact q3))
                   | (((apply IdxSl.buf1 hA (j := i)); (· rfl); (· rfl); (· rfl); (· omega)))
                   | (((apply IdxSl.buf1 hB (j := i)); (· rfl); (· rfl); (· rfl); (· omega)))
                   | (((with_reducible apply StoreSt.bufm (g := zV) (x := n.tmod 5)); (· exact Gv.Loc.tl (Gv.Loc.left Gv.Loc.hd)); (· exact hA); (· rfl); (· rfl); (· omega); (· rfl)))
                   | (((with_reducible apply LoadSt.rdm (g := uN)); (· exact Rd.cons (Rd.appL (Rd.appR (Buf.rd hB)))); (· omega)); unfold uN)
                   | (((with_reducible apply NW.inc)))
                   | (((with_reducible apply StoreSt.bufm (g := uN) (x := (us.getD i default + 1) % 18446744073709551616)); (· exact Gv.Loc.tl (Gv.Loc.left (Gv.Loc.skip Gv.Loc.last))); (· exact hB); (· rfl); (· rfl); (· omega); (· rfl)))
                   | (with_reducible refine NextSt.mk ?_)
                   | (with_reducible refine OnBB.tt ?_)
                   | ((with_reducible apply NW.addN); (· with_reducible rfl); (· exact natL _); (· omega))
                   | ((with_reducible apply Cmp.yes); · omega)
                   | ((with_reducible apply LoadSt.box); · (repeat (exact List.Mem.head _))))
          refine RoundFix.mk ((i + 1, ns.set i (n.tmod 5), us.set i ((us.getD i default + 1) % 18446744073709551616))) ?_ ?_ _ rfl (Wk.drop (by (try dsimp only); (try simp only [List.cons_append, List.nil_append]); (repeat (first | with_reducible exact List.Sublist.refl _ | with_reducible apply List.Sublist.cons_cons | apply sub_app)))) ?_
          · dsimp only; omega
          · repeat' (first | exact True.intro | refine And.intro ?_ ?_ | rfl)
          · exact ⟨by omega, by simp only [List.length_set]; omega, by simp only [List.length_set]; omega, hp9, hA9, hB9⟩
        · repeat' (conv => whnf
                   first
                   | (((with_reducible apply DivSt.tm); · decide))
                   | (((with_reducible apply Cmp.yes); · exact q2))
                   | (((with_reducible apply Cmp.no); · exact q3))
                   | (((apply IdxSl.buf1 hA (j := i)); (· rfl); (· rfl); (· rfl); (· omega)))
                   | (((with_reducible apply StoreSt.bufm (g := zV) (x := n.tmod 5)); (· exact Gv.Loc.tl (Gv.Loc.left Gv.Loc.hd)); (· exact hA); (· rfl); (· rfl); (· omega); (· rfl)))
                   | (with_reducible refine NextSt.mk ?_)
                   | (with_reducible refine OnBB.tt ?_)
                   | (with_reducible refine OnBB.ff ?_)
                   | ((with_reducible apply NW.addN); (· with_reducible rfl); (· exact natL _); (· omega))
                   | ((with_reducible apply Cmp.yes); · omega)
                   | ((with_reducible apply LoadSt.box); · (repeat (exact List.Mem.head _))))
          refine RoundFix.mk ((i + 1, ns.set i (n.tmod 5), us)) ?_ ?_ _ rfl (Wk.drop (by (try dsimp only); (try simp only [List.cons_append, List.nil_append]); (repeat (with_reducible exact List.Sublist.refl _)))) ?_
          · dsimp only; omega
          · repeat' (first | exact True.intro | refine And.intro ?_ ?_ | rfl)
          · exact ⟨by omega, by simp only [List.length_set]; omega, by simp only [List.length_set]; omega, hp9, hA9, hB⟩
      · by_cases q3 : n.tmod 3 = 1
        · repeat' (conv => whnf
                   first
                   | (((with_reducible apply DivSt.tm); · decide))
                   | (((with_reducible apply Cmp.no); · exact q2))
                   | (((with_reducible apply Cmp.yes); · exact q3))
                   | (((apply IdxSl.buf1 hB (j := i)); (· rfl); (· rfl); (· rfl); (· omega)))
                   | (((with_reducible apply LoadSt.rdm (g := uN)); (· exact Rd.cons (Rd.appL (Rd.appR (Buf.rd hB)))); (· omega)); unfold uN)
                   | (((with_reducible apply NW.inc)))
                   | (((with_reducible apply StoreSt.bufm (g := uN) (x := (us.getD i default + 1) % 18446744073709551616)); (· exact Gv.Loc.tl (Gv.Loc.left (Gv.Loc.skip Gv.Loc.last))); (· exact hB); (· rfl); (· rfl); (· omega); (· rfl)))
                   | (with_reducible refine NextSt.mk ?_)
                   | (with_reducible refine OnBB.tt ?_)
                   | (with_reducible refine OnBB.ff ?_)
                   | ((with_reducible apply NW.addN); (· with_reducible rfl); (· exact natL _); (· omega))
                   | ((with_reducible apply Cmp.yes); · omega)
                   | ((with_reducible apply LoadSt.box); · (repeat (exact List.Mem.head _))))
          refine RoundFix.mk ((i + 1, ns, us.set i ((us.getD i default + 1) % 18446744073709551616))) ?_ ?_ _ rfl (Wk.drop (by (try dsimp only); (try simp only [List.cons_append, List.nil_append]); (repeat (first | with_reducible exact List.Sublist.refl _ | with_reducible apply List.Sublist.cons_cons | apply sub_app)))) ?_
          · dsimp only; omega
          · repeat' (first | exact True.intro | refine And.intro ?_ ?_ | rfl)
          · exact ⟨by omega, by simp only [List.length_set]; omega, by simp only [List.length_set]; omega, hp, hA, hB9⟩
        · repeat' (conv => whnf
                   first
                   | (((with_reducible apply DivSt.tm); · decide))
                   | (((with_reducible apply Cmp.no); · exact q2))
                   | (((with_reducible apply Cmp.no); · exact q3))
                   | (with_reducible refine NextSt.mk ?_)
                   | (with_reducible refine OnBB.tt ?_)
                   | (with_reducible refine OnBB.ff ?_)
                   | ((with_reducible apply NW.addN); (· with_reducible rfl); (· exact natL _); (· omega))
                   | ((with_reducible apply Cmp.yes); · omega)
                   | ((with_reducible apply LoadSt.box); · (repeat (exact List.Mem.head _))))
          refine RoundFix.mk ((i + 1, ns, us)) ?_ ?_ _ rfl (Wk.drop (by (try dsimp only); (try simp only [List.cons_append, List.nil_append]); (repeat (with_reducible exact List.Sublist.refl _)))) ?_
          · dsimp only; omega
          · repeat' (first | exact True.intro | refine And.intro ?_ ?_ | rfl)
          · exact ⟨by omega, by simp only [List.length_set]; omega, by simp only [List.length_set]; omega, hp, hA, hB⟩
    · have : i = S1.2.logs.length := by omega
      subst this
      by_cases q7 : n.tmod 7 = 6
      · repeat' (conv => whnf
                 first
                 | (((with_reducible apply DivSt.tm); · decide))
                 | (((with_reducible apply Cmp.yes); · exact q7))
                 | (with_reducible refine NextSt.mk ?_)
                 | (with_reducible refine OnBB.tt ?_)
                 | (with_reducible refine OnBB.ff ?_)
                 | ((with_reducible apply Cmp.no); · omega)
                 | ((with_reducible apply LoadSt.box); · (repeat (exact List.Mem.head _)))
                 | ((with_reducible apply LoadSt.boxAgg); · (repeat (exact List.Mem.head _)))
                 | ((with_reducible apply StoreSt.box); (· (repeat (exact Upd.hd))); (· rfl); (· rfl); (· rfl)))
        conv => whnf
        apply CallSt.rd (f := 58)
        · apply GSpec.locRet (H := bH r1 S1.1 b1 S1.2)
          · repeat (first | exact l1 | with_reducible apply Gv.Loc.tl | with_reducible apply Gv.Loc.skip)
          · exact GSpec.locRet (Gv.Loc.skip Gv.Loc.last) (f58e r1.p b1 S1.2 A3.a none S1.2.logs.length A3.cap 0 0 (by omega) m1 hk1.k _)
        repeat' (conv => whnf
                 first
                 | (with_reducible refine NextSt.mk ?_)
                 | ((with_reducible apply LoadSt.boxAgg); · (repeat (exact List.Mem.head _))))
        conv => whnf
        apply CallSt.rd (f := 130)
        · apply GSpec.locRet (H := kE r2.p b2 S2.2)
          · repeat (first | exact l2k | with_reducible apply Gv.Loc.tl | with_reducible apply Gv.Loc.skip)
          · exact f130e r2.p b2 S2.2 A3.a none S1.2.logs.length A3.cap 0 0 (by rw [hL]; omega) (by rw [hL]; exact m1) hk2.k _
        repeat' (conv => whnf
                 first
                 | (with_reducible refine NextSt.mk ?_))
        conv => whnf
        refine CallSt.rd (f := 60) (X := .bool true) ?_ ?_
        · rw [← decide_eq_true (rfl : ([] : List En) = [])]
          exact f60 [] [] _ _ _ _ (by decide) (by decide) (fun e he => by cases he) (fun e he => by cases he) _ _ Rd.nil Rd.nil
        repeat' (conv => whnf
                 first
                 | (((with_reducible apply Cmp.yes); · rfl))
                 | (with_reducible refine NextSt.mk ?_)
                 | (with_reducible refine OnBB.tt ?_))
        conv => whnf
        refine FinSt.ret ?_ rfl
        repeat (first | apply List.Sublist.cons | exact (List.Sublist.refl O).trans (List.sublist_append_right _ _))
      · repeat' (conv => whnf
                 first
                 | (((with_reducible apply DivSt.tm); · decide))
                 | (((with_reducible apply Cmp.no); · exact q7))
                 | (with_reducible refine NextSt.mk ?_)
                 | (with_reducible refine OnBB.ff ?_)
                 | ((with_reducible apply Cmp.no); · omega)
                 | ((with_reducible apply LoadSt.box); · (repeat (exact List.Mem.head _)))
                 | ((with_reducible apply LoadSt.boxAgg); · (repeat (exact List.Mem.head _))))
        conv => whnf
        have tyr : ∀ (Z : Hp), tyR h (Z ++ (A3.hp 3 (ns.map zV) ++ B3.hp 108 (us.map uN))) ⟨A3.a, A3.cap, ns, B3.a, B3.cap, us⟩ := fun Z => ⟨Rd.appR (Rd.appL (Buf.rd hA)), Rd.appR (Rd.appR (Buf.rd hB)), by show ns.length ≤ _; omega, by show us.length ≤ _; omega⟩
        have e58 := f58 r1 b1 S1 ⟨A3.a, A3.cap, ns, B3.a, B3.cap, us⟩ (A3.hp 3 (ns.map zV) ++ B3.hp 108 (us.map uN)) hw hk1 hn1 hn2 hp h (tyr _)
        have e130 := f130 r2.p b2 S2.2 ⟨A3.a, A3.cap, ns, B3.a, B3.cap, us⟩ (A3.hp 3 (ns.map zV) ++ B3.hp 108 (us.map uN)) hw2 hk2.k (by rw [hL]; exact hn1) (by rw [hL]; exact hn2) hp h (tyr _)
        rw [hL] at e130
        simp only [tyV, hn1, hn2] at e58 e130
        have hwl := wantI_len (ns := ns) (us := us) hw.log S1.2.logs.length (Nat.le_refl _)
        have hwm : ∀ e ∈ wantI S1.2.logs ns us S1.2.logs.length, enW e := fun e he => w1.1 e (wantI_sub he)
        generalize wantI S1.2.logs ns us S1.2.logs.length = W at *
        apply CallSt.new (R := RowE W)
        · apply GSpec.locGNew' (H := bH r1 S1.1 b1 S1.2) (G := A3.hp 3 (ns.map zV) ++ B3.hp 108 (us.map uN))
          · repeat (first | exact l1 | with_reducible apply Gv.Loc.tl | with_reducible apply Gv.Loc.skip)
          · repeat (first | with_reducible exact Gv.Loc.hd | with_reducible apply Gv.Loc.tl)
          · exact e58
        rintro _ _ ⟨P1, rfl, rfl, hP1⟩
        repeat' (conv => whnf
                 first
                 | (with_reducible refine NextSt.mk ?_)
                 | ((with_reducible apply LoadSt.boxAgg); · (repeat (first | exact List.Mem.head _ | with_reducible apply List.mem_append_right))))
        conv => whnf
        apply CallSt.new (R := RowE W)
        · apply GSpec.locGNew' (H := kE r2.p b2 S2.2) (G := A3.hp 3 (ns.map zV) ++ B3.hp 108 (us.map uN))
          · repeat (first | exact l2k | with_reducible apply Gv.Loc.tl | with_reducible apply Gv.Loc.skip)
          · repeat (first | with_reducible exact Gv.Loc.hd | with_reducible apply Gv.Loc.tl | with_reducible apply Gv.Loc.skip)
          · exact e130
        rintro _ _ ⟨P2, rfl, rfl, hP2⟩
        repeat' (conv => whnf
                 first
                 | (with_reducible refine NextSt.mk ?_))
        conv => whnf
        refine CallSt.rd (f := 60) (X := .bool true) ?_ ?_
        · rw [← decide_eq_true (rfl : W = W)]
          exact f60 _ _ _ _ _ _ (by omega) (by omega) hwm hwm _ _ (Rd.appR (Rd.appL (Buf.rd hP1))) (Rd.appL (Buf.rd hP2))
        repeat' (conv => whnf
                 first
                 | (((with_reducible apply Cmp.yes); · rfl))
                 | (with_reducible refine NextSt.mk ?_)
                 | (with_reducible refine OnBB.tt ?_))
        conv => whnf
        refine FinSt.ret ?_ rfl
        repeat (first | apply List.Sublist.cons | exact (List.Sublist.refl O).trans (List.sublist_append_right _ _) | apply sub_skip)
end Go.Proofs.Ytlbmlimaobkhpaa
/- Books on disks whose power goes off: what stays true. No program in sight. -/
namespace Go.Proofs.Ytlbmlimaobkhpaa
set_option linter.unusedSimpArgs false
set_option linter.unusedVariables false
/-- What becomes of a disk: as long, and a fall of the power is counted. -/
structure mon (d d' : Dk) : Prop where
  len : d'.safe.length = d.safe.length
  le : d.falls ≤ d'.falls
  on : d'.falls = d.falls → d.off = false → d'.off = false
theorem mon.refl (d : Dk) : mon d d := ⟨rfl, Nat.le_refl _, fun _ h => h⟩
theorem mon.trans {a b c : Dk} (h : mon a b) (g : mon b c) : mon a c := ⟨g.len.trans h.len, Nat.le_trans h.le g.le, fun e o => by
  have h1 := h.le
  have h2 := g.le
  exact g.on (by omega) (h.on (by omega) o)⟩
theorem mon.fall (d : Dk) : mon d d.fall := by
  refine ⟨rfl, ?_, fun e o => ?_⟩
  · show _ ≤ (if d.off then d.falls else d.falls + 1)
    split <;> omega
  · have e : (if d.off then d.falls else d.falls + 1) = d.falls := e
    rw [o, if_neg Bool.false_ne_true] at e
    omega
theorem mon.strike (d : Dk) : mon d d.strike.1 := by
  unfold Dk.strike
  split
  · exact mon.refl d
  · split
    · exact mon.fall d
    · exact ⟨rfl, Nat.le_refl _, fun _ h => h⟩
theorem mon.write (d : Dk) (i : Int) (s : Str) : mon d (d.write i s).1 := by
  unfold Dk.write
  split
  · exact mon.refl d
  · split
    · exact mon.refl d
    · exact mon.trans (b := { d with waits := d.waits ++ [(i.toNat, s)] }) ⟨rfl, Nat.le_refl _, fun _ h => h⟩ (mon.strike _)
theorem settle_len : ∀ (l : List (Nat × Str)) (s : List Str), (Dk.settle s l).length = s.length
  | [], _ => rfl
  | w :: l, s => by
    show (Dk.settle (s.set w.1 w.2) l).length = _
    rw [settle_len l, List.length_set]
theorem mon.sync (d : Dk) : mon d d.sync.1 := by
  unfold Dk.sync
  split
  · exact mon.refl d
  · split
    · exact mon.strike d
    · exact (mon.strike d).trans ⟨by show (Dk.settle d.safe d.waits).length = _; rw [settle_len, (mon.strike d).len], Nat.le_refl _, fun _ h => h⟩
theorem mon.op (d : Dk) : ∀ o, mon d (d.op o).1
  | some (i, s) => mon.write d i s
  | none => mon.sync d
theorem mon.ops : ∀ (l : List Dk.Op) (d : Dk), mon d (d.ops l).1
  | [], d => mon.refl d
  | o :: l, d => by
    show mon d (if (d.op o).2 = 0 then (d.op o).1.ops l else d.op o).1
    split
    · exact (mon.op d o).trans (mon.ops l _)
    · exact mon.op d o
theorem mon.keep (d : Dk) (a : Nat) (p : Str) : mon d (keepV d a p).1 := by
  unfold keepV
  split
  · exact mon.refl d
  · exact mon.ops _ _
theorem mon.arm (d : Dk) (n : Int) : mon d (d.arm n) := ⟨rfl, Nat.le_refl _, fun _ h => h⟩
theorem mon.restart (d : Dk) (k : Str) : mon d (d.restart k) := ⟨tear_lenC _ _, by show _ ≤ (if d.off then d.falls else d.falls + 1); split <;> omega, fun _ _ => rfl⟩
theorem mon.make (d : Dk) (n : Int) : mon d (makeV d n).1 := by
  unfold makeV
  split
  · exact mon.refl d
  · split
    · exact mon.refl d
    · split
      · exact mon.keep _ _ _
      · exact mon.keep _ _ _
theorem put_mon (S : DB) (e : En) : mon S.1 (putV S e).1.1 ∧ (putV S e).1.2.falls = S.2.falls := by
  unfold putV
  split
  · exact ⟨mon.keep _ _ _, rfl⟩
  · exact ⟨mon.keep _ _ _, rfl⟩
theorem takeIn_mon (l : List En) (p : Nat) : ∀ f no S n, mon S.1 (takeIn l p f no S n).S.1 ∧ (takeIn l p f no S n).S.2.falls = S.2.falls
  | 0, _, S, _ => ⟨mon.refl _, rfl⟩
  | f + 1, no, S, n => by
    unfold takeIn
    split
    · split
      · rename_i e _
        split
        · have h1 := put_mon S e
          split
          · have h2 := takeIn_mon l p f (no + 1) (putV S e).1 (n + 1)
            exact ⟨h1.1.trans h2.1, h2.2.trans h1.2⟩
          · exact h1
        · exact takeIn_mon l p f _ _ _
      · exact takeIn_mon l p f _ _ _
    · exact ⟨mon.refl _, rfl⟩
theorem takeO_mon (l : List En) : ∀ f p S n, mon S.1 (takeO l f p S n).S.1 ∧ (takeO l f p S n).S.2.falls = S.2.falls
  | 0, _, S, _ => ⟨mon.refl _, rfl⟩
  | f + 1, p, S, n => by
    have h1 := takeIn_mon l p 66 0 S n
    unfold takeO
    split
    · have h2 := takeO_mon l f (p + 1) (takeIn l p 66 0 S n).S (takeIn l p 66 0 S n).n
      exact ⟨h1.1.trans h2.1, h2.2.trans h1.2⟩
    · exact h1
theorem takeV_mon (S : DB) (l : List En) : mon S.1 (takeV S l).S.1 ∧ (takeV S l).S.2.falls = S.2.falls := by
  unfold takeV
  split
  · exact ⟨mon.refl _, rfl⟩
  · exact takeO_mon _ _ _ _ _
/-- A book and its disk, as acts leave them. -/
structure bInv (B : Nat) (S : DB) : Prop where
  ok : okS B S
  le : S.2.falls ≤ S.1.falls
  up : S.2.falls = S.1.falls → S.1.off = false
  one : 1 ≤ S.2.logs.length
theorem bInv.to {B C : Nat} {S T : DB} (h : bInv B S) (m : mon S.1 T.1) (hf : T.2.falls = S.2.falls) (ho : okS C T) (hl : T.2.logs.length = S.2.logs.length) : bInv C T := by
  have h1 := h.le
  have h2 := m.le
  exact ⟨ho, by omega, fun e => m.on (by omega) (h.up (by omega)), by rw [hl]; exact h.one⟩
theorem bInv.take {B : Nat} {S : DB} (h : bInv B S) (l : List En) : bInv (B + 10560) (takeV S l).S :=
  h.to (takeV_mon S l).1 (takeV_mon S l).2 (takeV_ok h.ok l) (takeV_len S l)
theorem bInv.add {B : Nat} {S : DB} (h : bInv B S) (e : En) : bInv (B + 20) (addV S e).1 := by
  have h0 : bInv (B + 20) S := h.to (mon.refl _) rfl (h.ok.mono (by omega)) rfl
  unfold addV
  split
  · exact h0
  · split
    · exact h0
    · split
      · exact h0
      · split
        · exact h0
        · rename_i h1 h2 h3 h4
          have h2 := Classical.not_not.1 h2
          have h4 := Classical.not_not.1 h4
          exact h.to (put_mon S e).1 (put_mon S e).2 (h.ok.put ⟨h2.1, h2.2, .inl h4⟩) (putV_len S e)
theorem bInv.disk {B C : Nat} {d d' : Dk} {k : Bk} (h : bInv B (d, k)) (m : mon d d') (ho : d'.okB C) : bInv C (d', k) :=
  h.to m rfl ⟨ho, h.ok.wf, by show k.at_ ≤ _; rw [m.len]; exact h.ok.at_⟩ rfl
theorem bInv.open_ {B : Nat} {d : Dk} {k : Bk} {e : Int} (hd : d.okB B) (h : openV d = (some k, e)) : e = 0 ∧ bInv B (d, k) := by
  obtain ⟨h1, h2, h3, h4⟩ := openV_some hd h
  exact ⟨h1, h3, Nat.le_of_eq h2.1, fun _ => h2.2, h4⟩
theorem bInv.make {B : Nat} {d d' : Dk} {k : Bk} {n e : Int} (hd : d.okB B) (h : makeV d n = (d', some k, e)) : e = 0 ∧ bInv (B + 20) (d', k) := by
  have hb := makeV_okB hd n
  rw [h] at hb
  unfold makeV at h
  split at h
  · cases h
  · rename_i hn
    split at h
    · cases h
    · rename_i ho
      have ho : d.off = false := by cases hx : d.off <;> simp_all
      split at h
      · rename_i h0
        obtain ⟨a1, a2, _⟩ := keep_on h0
        have hf := keepV_full h0
        have hl := keepV_len d 0 (payB n.toNat)
        have hs := secN_pos (payB n.toNat).length
        simp only [Prod.mk.injEq, Option.some.injEq] at h
        obtain ⟨rfl, rfl, rfl⟩ := h
        refine ⟨rfl, ⟨hb, wfL.nil (by omega), ?_⟩, Nat.le_of_eq a2.symm, fun _ => a1.trans ho, ?_⟩
        · show 1 ≤ (keepV d 0 (payB n.toNat)).1.safe.length
          rw [hl]; omega
        · show 1 ≤ (List.replicate n.toNat []).length
          rw [List.length_replicate]; omega
      · cases h
end Go.Proofs.Ytlbmlimaobkhpaa
/- The reference's books: taking, whether the power has gone off or not. -/
namespace Go.Proofs.Ytlbmlimaobkhpaa
open Go Go.Gv
set_option maxRecDepth 100000
set_option maxHeartbeats 8000000
set_option linter.unusedSimpArgs false
set_option linter.unusedVariables false
theorem f68x (r : Dr) (b : Br) (S : DB) (B : Nat) (l : List En) (a : Option Addr) (cap : Nat) (G : Hp) (hw : ∀ e ∈ l, enW e) (hl : l.length < 1000000) (hI : bInv B S) (hB : B + 20000 < 1000000000) (hk : bOk r S.1 b S.2) (h : View) (hr : Rd h G a (l.flatMap enV)) :
    GSpec Try.prog 68 [pP b.p, .slice a l.length cap] h (G ++ eH r S.1 b S.2) (fun v _ O' => BEG r b (takeV S l).S (.tuple ⟨[iN (takeV S l).n, .int .i64 (takeV S l).err]⟩) G v O') := by
  by_cases h0 : S.2.falls = S.1.falls
  · exact f68 r b S B l a cap G hw hl hI.ok hB ⟨h0, hI.up h0⟩ hk h hr
  · have e131 := fun h => f131 b.p (bkV b) r S.1 S.2.at_ S.2.falls (lgc b :: lgHp b.ls) h
    rw [decide_eq_true (p := S.2.falls ≠ S.1.falls ∨ S.1.off = true) (.inl h0)] at e131
    rw [show takeV S l = ⟨S, 0, 93⟩ from if_pos h0]
    refine GSpec.enter (fn := Try.f68) Try.func68 rfl (by kernel_rfl) ?_
    repeat' (conv => whnf
             first
             | ((with_reducible refine CallSt.rd (f := 131) (X := .bool true) ?_ ?_); (· exact GSpec.locRet (H := eH r S.1 b S.2) (by (repeat (first | with_reducible exact Loc.last | with_reducible apply Loc.skip))) (e131 _)))
             | (with_reducible refine NextSt.mk ?_)
             | (with_reducible refine OnBB.tt ?_))
    conv => whnf
    exact FinSt.own (R := BEG r b S (.tuple ⟨[iN 0, .int .i64 93]⟩) G) (O1 := G ++ eH r S.1 b S.2) (List.Sublist.refl _) ⟨r, b, rfl, rfl, hk, rfl, rfl⟩
end Go.Proofs.Ytlbmlimaobkhpaa
