/- Functions of the reference: books opened, taken in. -/
import Derived.Test.YtlbmlimaobkhpaaOf
import Derived.Test.YtlbmlimaobkhpaaHa
import Derived.Test.YtlbmlimaobkhpaaKc
set_option linter.unusedVariables false
set_option linter.unusedSimpArgs false
set_option linter.unusedSectionVars false
/- The reference's books: opening. -/
namespace Go.Proofs.Ytlbmlimaobkhpaa
open Go Go.Gv
set_option maxRecDepth 100000
set_option maxHeartbeats 4000000
set_option linter.unusedSimpArgs false
set_option linter.unusedVariables false
/-- A book's own blocks. -/
abbrev kE (q : Nat) (b : Br) (k : Bk) : Hp := bke b.p (bkV b) q k.at_ k.falls :: lgc b :: lgHp b.ls
/-- What opening gives. -/
def OpenE (q : Nat) (x : Option Bk × Int) (v : Value) (H : Hp) : Prop :=
  match x.1 with
  | some k => ∃ b, kOk b k ∧ H = kE q b k ∧ v = .tuple ⟨[pP b.p, .int .i64 x.2]⟩
  | none => H = [] ∧ v = .tuple ⟨[.pointer none, .int .i64 x.2]⟩
theorem OpenE.fin {r : Dr} {d : Dk} {p lp a : Nat} {ls : List Lg} {o : Option Bk × Int} {O : Hp} {h : View} (ho : o = (some ⟨ls.map Prod.snd, a, d.falls⟩, 0)) (hl : lOk ls)
    (hs : (eHp r d ++ (bke p (bkV ⟨p, lp, ls⟩) r.p a d.falls :: lgc ⟨p, lp, ls⟩ :: lgHp ls)).Sublist O) : FinSt (.tuple ⟨[pP p, .int .i64 0]⟩) h O (New (eHp r d) (OpenE r.p o)) := by
  subst ho
  exact .mk h (kE r.p ⟨p, lp, ls⟩ ⟨ls.map Prod.snd, a, d.falls⟩ ++ eHp r d) ((Wk.drop hs).trans (Wk.perm List.perm_append_comm)) ⟨_, rfl, ⟨p, lp, ls⟩, ⟨rfl, hl⟩, rfl, rfl⟩
theorem f66 (r : Dr) (d : Dk) (B : Nat) (hd : d.okB B) (hB : B < 1000000000) (hk : dOk r d) (h : View) : GSpec Try.prog 66 [dP r] h (eHp r d) (New (eHp r d) (OpenE r.p (openV d))) := by
  have hcm := cont_mem hd
  have hcl := cont_len d
  have hsz := hd.size
  cases ho : d.off
  · have e0 := f122 r d 0 B (by decide) hd hB hk h
    cases h0 : recC (cont d) 0 with
    | none =>
      have eo : openV d = (none, 95) := by
        unfold openV
        rw [if_neg (by rw [ho]; exact Bool.false_ne_true), h0]
      rw [eo]
      rw [h0] at e0
      refine GSpec.enter (fn := Try.f66) Try.func66 rfl (by kernel_rfl) ?_
      repeat' (conv => whnf
               first
               | (((with_reducible apply LoadSt.box); (· repeat (exact eHp_hd _ _))))
               | ((rw [ho]; refine OnBB.tt ?_))
               | ((with_reducible refine CallSt.rd (f := 122) (X := recR none) ?_ ?_); (· exact e0))
               | (with_reducible refine NextSt.mk ?_)
               | (with_reducible refine OnBB.tt ?_)
               | (with_reducible refine OnBB.ff ?_))
      exact FinSt.new (H := []) (R := OpenE r.p (none, 95)) (show List.Sublist (eHp r d) _ from List.Sublist.refl _) ⟨rfl, rfl⟩
    | some s =>
      obtain ⟨hs1, hs2, hs3⟩ := recC_some hcm h0
      have g0 := nb_getD s 0
      have g1 := nb_getD s 1
      have hnl := nb_len s
      have hb0 : 1 ≤ s.length → (nb s).getD 0 0 < 256 := fun hx => nb_byt _ _ (getD_mem' (by omega))
      have hb1 : 2 ≤ s.length → (nb s).getD 1 0 < 256 := fun hx => nb_byt _ _ (getD_mem' (by omega))
      rw [h0] at e0
      have e94 := f94 ((nb s).getD 1 0 : Nat) 1 8
      by_cases hh : headOk s
      · obtain ⟨a1, a2, a3, a4⟩ := id hh
        have a2' : (nb s).getD 0 0 = 1 := by rw [g0, a2]; rfl
        rw [← g1] at a3 a4
        have eo : openV d = (some ⟨(openI (cont d) (cont d).length 1 (List.replicate ((nb s).getD 1 0) [])).1, (openI (cont d) (cont d).length 1 (List.replicate ((nb s).getD 1 0) [])).2, d.falls⟩, 0) := by
          unfold openV
          rw [if_neg (by rw [ho]; exact Bool.false_ne_true), h0]
          simp only
          rw [if_pos hh, g1]
        rw [eo]
        have b1 := hb1 (by omega)
        have hsec : secN s.length = 1 := by rw [a1]; rfl
        rw [decide_eq_true (show (1 : Int) ≤ ((nb s).getD 1 0 : Nat) ∧ (((nb s).getD 1 0 : Nat) : Int) ≤ 8 by omega)] at e94
        refine GSpec.enter (fn := Try.f66) Try.func66 rfl (by kernel_rfl) ?_
        repeat' (conv => whnf
                 first
                 | (((with_reducible apply LoadSt.box); (· repeat (exact eHp_hd _ _))))
                 | ((rw [ho]; refine OnBB.tt ?_))
                 | ((with_reducible refine CallSt.rd (f := 122) (X := recR (some s)) ?_ ?_); (· exact e0))
                 | ((with_reducible refine CallSt.rd (f := 94) (X := .bool true) ?_ ?_); (· exact e94 _ _))
                 | (((apply MakeSt.n (n := (nb s).getD 1 0) (z := [.slice none 0 0])); (· rfl); (· rfl); (· (show 24 * _ ≤ _; omega)); (· omega); (· rfl); (· rfl)); intro lb _hlb _hlbO; rw [show rows ((nb s).getD 1 0) [Value.slice none 0 0] = (List.replicate ((nb s).getD 1 0) (default : Lg)).map slV from rows_map (g := slV) (d := default) _])
                 | ((with_reducible refine DrawSt.walk [0, 1, 2, 4, 5, 6, 7, 8, 3, 9, 10, 11] mixed ?_ ?_); · decide +kernel)
                 | (with_reducible refine NextSt.mk ?_)
                 | (with_reducible refine OnBB.tt ?_)
                 | (with_reducible refine OnBB.ff ?_)
                 | ((with_reducible apply NW.i64N); (· with_reducible rfl); (· omega))
                 | ((with_reducible apply Cmp.no); · omega)
                 | ((with_reducible refine AllocSt.mk ?_); intro _b _hb _hbO)
                 | ((with_reducible apply StrIdx.m); (· exact natL _); · omega))
        conv => whnf
        obtain ⟨p, hp⟩ : ∃ x, x = _b := ⟨_, rfl⟩
        subst hp
        obtain ⟨n, hn⟩ : ∃ x, x = (nb s).getD 1 0 := ⟨_, rfl⟩
        rw [← hn] at a3 a4 eo ⊢
        have hwk : Wk h (bke p (.slice (some ⟨lb, 0, none⟩) n n) r.p 1 d.falls :: (lb, .cells ⟨(List.replicate n (default : Lg)).map slV⟩ 63 (0, 0)) :: eHp r d) h (eHp r d ++ (bke p (bkV ⟨p, lb, List.replicate n default⟩) r.p 1 d.falls :: lgc ⟨p, lb, List.replicate n default⟩ :: lgHp (List.replicate n default))) := by
          rw [lgHp_nil, show bkV ⟨p, lb, List.replicate n default⟩ = .slice (some ⟨lb, 0, none⟩) n n from by unfold bkV; rw [List.length_replicate]]
          exact Wk.perm (List.perm_append_comm (l₁ := [_, _]) (l₂ := eHp r d))
        refine LoopSt.fix [2, 3, 7, 8, 9, 52, 53, 54, 55, 56, 57, 58, 59, 60, 61, 62, 63, 64, 65, 66, 67, 68, 69, 70, 71, 72, 73, 74, 75, 76, 77, 78, 79, 80, 81, 82, 83, 84, 85, 86, 87, 88, 89, 90, 91, 92, 93, 94, 95, 96, 97, 98, 99, 100, 101] (fun (_ : Nat × Nat × List Lg) => []) (fun (a, lp, ls) => eHp r d ++ (bke p (bkV ⟨p, lp, ls⟩) r.p a d.falls :: lgc ⟨p, lp, ls⟩ :: lgHp ls)) (fun (a, lp, ls) => a ≤ d.safe.length ∧ lOk ls ∧ wfL (ls.map Prod.snd) ∧ ∃ f, (cont d).length ≤ a + f ∧ openI (cont d) (cont d).length 1 (List.replicate n []) = openI (cont d) f a (ls.map Prod.snd)) (fun (a, _) => d.safe.length - a) ((1, lb, List.replicate n default)) _ (hwk) (rfl) ?_ ?_ ?_
        · repeat' (first | exact True.intro | refine And.intro ?_ ?_ | rfl)
        · dsimp only
          rw [show (List.replicate n (default : Lg)).map Prod.snd = List.replicate n [] from logs_nil p lb n]
          exact ⟨by have := secN_pos s.length; omega, lOk.nil n, wfL.nil a4, (cont d).length, by omega, rfl⟩
        · rintro ⟨a, lp, ls⟩ d2 ⟨ha, hl, hw, f, hf1, hf2⟩
          dsimp only at ha hl hw hf1 hf2 ⊢
          have e122 := fun G => GSpec.locRet (Gv.Loc.hd (r := G)) (f122 r d a B (by omega) hd hB hk h)
          cases h1 : recC (cont d) a with
          | none =>
            have hf3 : openI (cont d) f a (ls.map Prod.snd) = (ls.map Prod.snd, a) := by
              cases f with
              | zero => rfl
              | succ f =>
                rw [openI_succ, h1]
                split <;> rfl
            rw [h1] at e122
            repeat' (conv => whnf
                     first
                     | ((with_reducible refine CallSt.rd (f := 122) (X := recR none) ?_ ?_); (· exact e122 _))
                     | (with_reducible refine NextSt.mk ?_)
                     | (with_reducible refine OnBB.tt ?_)
                     | (with_reducible refine OnBB.ff ?_)
                     | ((with_reducible apply LoadSt.box); · (repeat (first | exact List.Mem.head _ | with_reducible apply List.mem_append_right))))
            exact OpenE.fin (by rw [hf2, hf3]) hl (List.Sublist.refl _)
          | some t =>
            obtain ⟨ht1, ht2, ht3⟩ := recC_some hcm h1
            have hsp := secN_pos t.length
            obtain ⟨f, rfl⟩ : ∃ g, f = g + 1 := ⟨f - 1, by omega⟩
            rw [openI_succ (cont d) f a, if_pos (show a < (cont d).length by omega)] at hf2
            have q0 := nb_getD t 0
            have q1 := nb_getD t 1
            have q2 := nb_getD t 2
            have htl := nb_len t
            rw [h1] at hf2 e122
            simp only at hf2
            by_cases c1 : t.length < 3
            · rw [if_pos (.inl c1)] at hf2
              repeat' (conv => whnf
                       first
                       | ((with_reducible refine CallSt.rd (f := 122) (X := recR (some t)) ?_ ?_); (· exact e122 _))
                       | (with_reducible refine NextSt.mk ?_)
                       | (with_reducible refine OnBB.tt ?_)
                       | (with_reducible refine OnBB.ff ?_)
                       | ((with_reducible apply Cmp.yes); · omega)
                       | ((with_reducible apply LoadSt.box); · (repeat (first | exact List.Mem.head _ | with_reducible apply List.mem_append_right))))
              exact OpenE.fin (by rw [hf2]) hl (List.Sublist.refl _)
            · have d0 : (nb t).getD 0 0 < 256 := nb_byt _ _ (getD_mem' (by omega))
              have d1 : (nb t).getD 1 0 < 256 := nb_byt _ _ (getD_mem' (by omega))
              have d2 : (nb t).getD 2 0 < 256 := nb_byt _ _ (getD_mem' (by omega))
              by_cases c2 : t.getD 0 0 = 2
              · have c2' : (nb t).getD 0 0 = 2 := by rw [q0, c2]; rfl
                rw [if_neg (fun hx => hx.elim c1 fun hx => hx c2)] at hf2
                have hen : enV (enOf t) = [.int .i64 ((nb t).getD 1 0 : Nat), .int .i64 ((nb t).getD 2 0 : Nat), sV (t.drop 3)] := by
                  rw [q1, q2]; rfl
                have e123 := f123 ⟨p, lp, ls⟩ r.p a d.falls (enOf t) hw hl (by show (t.drop 3).length < _; rw [List.length_drop]; omega) h
                rw [hen] at e123
                by_cases c3 : chg (ls.map Prod.snd) (enOf t)
                · rw [if_pos c3] at hf2
                  rw [show decide (chg (Br.logs ⟨p, lp, ls⟩) (enOf t)) = true from decide_eq_true c3] at e123
                  have e124 := f124 ⟨p, lp, ls⟩ r.p a d.falls (enOf t) hw hl c3 h
                  rw [hen] at e124
                  repeat' (conv => whnf
                           first
                           | ((with_reducible refine CallSt.rd (f := 122) (X := recR (some t)) ?_ ?_); (· exact e122 _))
                           | (((with_reducible apply CallSt.rd (f := 123) (X := .bool true)); (· apply GSpec.locRet (H := bke p (bkV ⟨p, lp, ls⟩) r.p a d.falls :: lgc ⟨p, lp, ls⟩ :: lgHp ls); (· (repeat (first | with_reducible exact Loc.last | with_reducible apply Loc.tl | with_reducible apply Loc.skip))); (· exact e123))))
                           | ((with_reducible refine DrawSt.walk [0, 1, 2, 3, 4, 5, 6, 7, 8, 9, 10] mixed ?_ ?_); · decide +kernel)
                           | (with_reducible refine NextSt.mk ?_)
                           | (with_reducible refine OnBB.tt ?_)
                           | (with_reducible refine OnBB.ff ?_)
                           | ((with_reducible apply NW.i64N); (· with_reducible rfl); (· omega))
                           | ((with_reducible apply Cmp.no); · omega)
                           | ((with_reducible apply LoadSt.box); · (repeat (first | exact List.Mem.head _ | with_reducible apply List.mem_append_right)))
                           | ((with_reducible apply LoadSt.boxAgg); · (repeat (exact List.Mem.head _)))
                           | ((with_reducible refine AllocSt.mk ?_); intro _b _hb _hbO)
                           | ((with_reducible apply StoreSt.box); (· (repeat (exact Upd.hd))); (· rfl); (· rfl); (· rfl))
                           | ((with_reducible apply StrIdx.m); (· exact natL _); · omega)
                           | ((with_reducible apply StrSl.lo); (· exact natL _); (· (omega))))
                  conv => whnf
                  with_reducible apply CallSt.loc (f := 124) (H := bke p (bkV ⟨p, lp, ls⟩) r.p a d.falls :: lgc ⟨p, lp, ls⟩ :: lgHp ls) (R := ChE ⟨p, lp, ls⟩ r.p a d.falls (enOf t))
                  · (repeat (first | with_reducible exact Loc.last | with_reducible apply Loc.tl | with_reducible apply Loc.skip))
                  · exact e124
                  rintro _ _ ⟨⟨p3, lp3, ls3⟩, hp3, hlg3, hl3, rfl, rfl⟩
                  obtain rfl : p3 = p := hp3
                  repeat' (conv => whnf
                           first
                           | ((with_reducible refine CallG.rd (f := 125) (X := iN (secN t.length)) ?_ ?_); (· exact f125 _ (by omega) _ _))
                           | ((with_reducible refine DrawSt.walk [0, 1, 2, 3, 4, 5, 6, 7, 8, 9, 10, 11] mixed ?_ ?_); · decide +kernel)
                           | (with_reducible refine NextSt.mk ?_)
                           | ((with_reducible apply NW.addN); (· with_reducible rfl); (· with_reducible rfl); (· omega))
                           | ((with_reducible apply LoadSt.box); · (repeat (first | exact List.Mem.head _ | with_reducible apply List.mem_append_right | with_reducible apply List.mem_cons_of_mem)))
                           | ((with_reducible apply StoreSt.box); (· (repeat (first | exact Upd.hd | apply Upd.tl | apply Upd.app))); (· rfl); (· rfl); (· rfl)))
                  have hlg4 : ls3.map Prod.snd = chgd (ls.map Prod.snd) (enOf t) := hlg3
                  refine RoundFix.mk (a + secN t.length, lp3, ls3) ?_ ?_ _ rfl (Wk.drop (List.Sublist.cons _ (List.Sublist.refl _))) ?_
                  · dsimp only; omega
                  · repeat' (first | exact True.intro | refine And.intro ?_ ?_ | rfl)
                  · exact ⟨by omega, hl3, by rw [hlg4]; exact hw.chgd c3, f, by omega, by rw [hf2, hlg4]⟩
                · rw [if_neg c3] at hf2
                  rw [show decide (chg (Br.logs ⟨p, lp, ls⟩) (enOf t)) = false from decide_eq_false c3] at e123
                  repeat' (conv => whnf
                           first
                           | ((with_reducible refine CallSt.rd (f := 122) (X := recR (some t)) ?_ ?_); (· exact e122 _))
                           | (((with_reducible apply CallSt.rd (f := 123) (X := .bool false)); (· apply GSpec.locRet (H := bke p (bkV ⟨p, lp, ls⟩) r.p a d.falls :: lgc ⟨p, lp, ls⟩ :: lgHp ls); (· (repeat (first | with_reducible exact Loc.last | with_reducible apply Loc.tl | with_reducible apply Loc.skip))); (· exact e123))))
                           | ((with_reducible refine DrawSt.walk [0, 1, 2, 3, 4, 5, 6, 7, 8, 9, 10] mixed ?_ ?_); · decide +kernel)
                           | (with_reducible refine NextSt.mk ?_)
                           | (with_reducible refine OnBB.tt ?_)
                           | (with_reducible refine OnBB.ff ?_)
                           | ((with_reducible apply NW.i64N); (· with_reducible rfl); (· omega))
                           | ((with_reducible apply Cmp.no); · omega)
                           | ((with_reducible apply LoadSt.box); · (repeat (first | exact List.Mem.head _ | with_reducible apply List.mem_append_right)))
                           | ((with_reducible apply LoadSt.boxAgg); · (repeat (exact List.Mem.head _)))
                           | ((with_reducible refine AllocSt.mk ?_); intro _b _hb _hbO)
                           | ((with_reducible apply StoreSt.box); (· (repeat (exact Upd.hd))); (· rfl); (· rfl); (· rfl))
                           | ((with_reducible apply StrIdx.m); (· exact natL _); · omega)
                           | ((with_reducible apply StrSl.lo); (· exact natL _); (· (omega))))
                  exact OpenE.fin (by rw [hf2]) hl (List.Sublist.cons _ (List.Sublist.refl _))
              · have c2' : (nb t).getD 0 0 ≠ 2 := fun hx => c2 (UInt8.toNat_inj.1 (by rw [← q0, hx]; rfl))
                rw [if_pos (.inr c2)] at hf2
                repeat' (conv => whnf
                         first
                         | ((with_reducible refine CallSt.rd (f := 122) (X := recR (some t)) ?_ ?_); (· exact e122 _))
                         | (with_reducible refine NextSt.mk ?_)
                         | (with_reducible refine OnBB.tt ?_)
                         | (with_reducible refine OnBB.ff ?_)
                         | ((with_reducible apply Cmp.yes); · omega)
                         | ((with_reducible apply Cmp.no); · omega)
                         | ((with_reducible apply LoadSt.box); · (repeat (first | exact List.Mem.head _ | with_reducible apply List.mem_append_right)))
                         | ((with_reducible apply StrIdx.m); (· exact natL _); · omega))
                exact OpenE.fin (by rw [hf2]) hl (List.Sublist.refl _)
      · have eo : openV d = (none, 95) := by
          unfold openV
          rw [if_neg (by rw [ho]; exact Bool.false_ne_true), h0]
          simp only
          rw [if_neg hh]
        rw [eo]
        by_cases a1 : s.length = 2
        · have b0 := hb0 (by omega)
          have b1 := hb1 (by omega)
          by_cases a2 : (nb s).getD 0 0 = 1
          · have a5 : ¬ ((1 : Int) ≤ ((nb s).getD 1 0 : Nat) ∧ (((nb s).getD 1 0 : Nat) : Int) ≤ 8) := fun hx => hh ⟨a1, UInt8.toNat_inj.1 (by rw [← g0, a2]; rfl), by omega, by omega⟩
            rw [decide_eq_false a5] at e94
            refine GSpec.enter (fn := Try.f66) Try.func66 rfl (by kernel_rfl) ?_
            repeat' (conv => whnf
                     first
                     | (((with_reducible apply LoadSt.box); (· repeat (exact eHp_hd _ _))))
                     | ((rw [ho]; refine OnBB.tt ?_))
                     | ((with_reducible refine CallSt.rd (f := 122) (X := recR (some s)) ?_ ?_); (· exact e0))
                     | ((with_reducible refine CallSt.rd (f := 94) (X := .bool false) ?_ ?_); (· exact e94 _ _))
                     | (with_reducible refine NextSt.mk ?_)
                     | (with_reducible refine OnBB.tt ?_)
                     | (with_reducible refine OnBB.ff ?_)
                     | ((with_reducible apply NW.i64N); (· with_reducible rfl); (· omega))
                     | ((with_reducible apply Cmp.no); · omega)
                     | ((with_reducible apply StrIdx.m); (· exact natL _); · omega))
            exact FinSt.new (H := []) (R := OpenE r.p (none, 95)) (show List.Sublist (eHp r d) _ from List.Sublist.refl _) ⟨rfl, rfl⟩
          · refine GSpec.enter (fn := Try.f66) Try.func66 rfl (by kernel_rfl) ?_
            repeat' (conv => whnf
                     first
                     | (((with_reducible apply LoadSt.box); (· repeat (exact eHp_hd _ _))))
                     | ((rw [ho]; refine OnBB.tt ?_))
                     | ((with_reducible refine CallSt.rd (f := 122) (X := recR (some s)) ?_ ?_); (· exact e0))
                     | (with_reducible refine NextSt.mk ?_)
                     | (with_reducible refine OnBB.tt ?_)
                     | (with_reducible refine OnBB.ff ?_)
                     | ((with_reducible apply Cmp.yes); · omega)
                     | ((with_reducible apply Cmp.no); · omega)
                     | ((with_reducible apply StrIdx.m); (· exact natL _); · omega))
            exact FinSt.new (H := []) (R := OpenE r.p (none, 95)) (show List.Sublist (eHp r d) _ from List.Sublist.refl _) ⟨rfl, rfl⟩
        · refine GSpec.enter (fn := Try.f66) Try.func66 rfl (by kernel_rfl) ?_
          repeat' (conv => whnf
                   first
                   | (((with_reducible apply LoadSt.box); (· repeat (exact eHp_hd _ _))))
                   | ((rw [ho]; refine OnBB.tt ?_))
                   | ((with_reducible refine CallSt.rd (f := 122) (X := recR (some s)) ?_ ?_); (· exact e0))
                   | (with_reducible refine NextSt.mk ?_)
                   | (with_reducible refine OnBB.tt ?_)
                   | (with_reducible refine OnBB.ff ?_)
                   | ((with_reducible apply Cmp.yes); · omega))
          exact FinSt.new (H := []) (R := OpenE r.p (none, 95)) (show List.Sublist (eHp r d) _ from List.Sublist.refl _) ⟨rfl, rfl⟩
  · have eo : openV d = (none, 93) := if_pos ho
    rw [eo]
    refine GSpec.enter (fn := Try.f66) Try.func66 rfl (by kernel_rfl) ?_
    repeat' (conv => whnf
             first
             | (((with_reducible apply LoadSt.box); (· repeat (exact eHp_hd _ _))))
             | ((rw [ho]; refine OnBB.ff ?_))
             | (with_reducible refine NextSt.mk ?_)
             | (with_reducible refine OnBB.tt ?_)
             | (with_reducible refine OnBB.ff ?_))
    exact FinSt.new (H := []) (R := OpenE r.p (none, 93)) (show List.Sublist (eHp r d) _ from List.Sublist.refl _) ⟨rfl, rfl⟩
end Go.Proofs.Ytlbmlimaobkhpaa
/- The reference's books: taking. -/
namespace Go.Proofs.Ytlbmlimaobkhpaa
open Go Go.Gv
set_option maxRecDepth 100000
set_option maxHeartbeats 8000000
set_option linter.unusedSimpArgs false
set_option linter.unusedVariables false
/-- A book that is up, on a disk that has power. -/
def upS (S : DB) : Prop := S.2.falls = S.1.falls ∧ S.1.off = false
theorem upS.put {S : DB} (h : upS S) {e : En} (h0 : (putV S e).2 = 0) : upS (putV S e).1 := by
  have hk := putV_keep h0
  obtain ⟨a1, a2, _⟩ := keep_on hk
  rw [putV_full hk]
  exact ⟨h.1.trans a2.symm, a1.trans h.2⟩
theorem bst_take {l : List En} {p no : Int} {i : Nat} (h : i < l.length) : bst (l.take (i + 1)) p no = bst1 p no (bst (l.take i) p no) (l.getD i default) := by
  rw [take_succ (d := default) h, bst_app]
/-- What a call leaves of a book, its disk, and the rest. -/
def BEG (r : Dr) (b : Br) (S : DB) (X : Value) (G : Hp) (v : Value) (O' : Hp) : Prop := ∃ r' b', r'.p = r.p ∧ b'.p = b.p ∧ bOk r' S.1 b' S.2 ∧ O' = G ++ eH r' S.1 b' S.2 ∧ v = X
theorem BEG.mk {r : Dr} {b : Br} {S : DB} {X : Value} {G : Hp} {sb wb : Buf} {lp : Nat} {ls : List Lg} (hk : bOk ⟨r.p, sb, wb⟩ S.1 ⟨b.p, lp, ls⟩ S.2) : BEG r b S X G X (G ++ eH ⟨r.p, sb, wb⟩ S.1 ⟨b.p, lp, ls⟩ S.2) := ⟨⟨r.p, sb, wb⟩, ⟨b.p, lp, ls⟩, rfl, rfl, hk, rfl, rfl⟩
theorem f68 (r : Dr) (b : Br) (S : DB) (B : Nat) (l : List En) (a : Option Addr) (cap : Nat) (G : Hp) (hw : ∀ e ∈ l, enW e) (hl : l.length < 1000000) (hS : okS B S) (hB : B + 20000 < 1000000000) (hu : upS S) (hk : bOk r S.1 b S.2) (h : View) (hr : Rd h G a (l.flatMap enV)) :
    GSpec Try.prog 68 [pP b.p, .slice a l.length cap] h (G ++ eH r S.1 b S.2) (fun v _ O' => BEG r b (takeV S l).S (.tuple ⟨[iN (takeV S l).n, .int .i64 (takeV S l).err]⟩) G v O') := by
  have e131 := fun h => f131 b.p (bkV b) r S.1 S.2.at_ S.2.falls (lgc b :: lgHp b.ls) h
  have hdn : ¬ (S.2.falls ≠ S.1.falls ∨ S.1.off = true) := fun hx => hx.elim (fun hx => hx hu.1) fun hx => by rw [hu.2] at hx; cases hx
  rw [decide_eq_false hdn] at e131
  rw [show takeV S l = takeO l S.2.logs.length 0 S 0 from if_neg (fun hx : downV S => hx hu.1)]
  have hN : b.ls.length = S.2.logs.length := by rw [← hk.logs, logs_len]
  have hN8 := hS.wf.len
  refine GSpec.enter (fn := Try.f68) Try.func68 rfl (by kernel_rfl) ?_
  repeat' (conv => whnf
           first
           | ((with_reducible refine CallSt.rd (f := 131) (X := .bool false) ?_ ?_); (· exact GSpec.locRet (H := eH r S.1 b S.2) (by (repeat (first | with_reducible exact Loc.last | with_reducible apply Loc.skip))) (e131 _)))
           | (with_reducible refine NextSt.mk ?_)
           | (with_reducible refine OnBB.ff ?_))
  refine LoopSt.fix [4, 5, 6, 7, 8, 9, 10, 11, 12, 13, 16, 17, 18, 19, 20, 21, 22, 23, 24, 25, 26, 27, 28, 29, 30, 31, 32, 33, 34, 35, 36, 37, 38, 39, 40, 41, 42, 43, 44, 45, 46, 47, 48, 49, 50, 51, 52, 53, 54, 55, 56, 57, 58, 59, 60, 61, 62, 63, 64, 65, 66, 67, 68, 69, 70, 71, 72, 73, 74, 75, 76, 77, 78, 79, 80, 81, 82, 83, 84, 85, 86, 87, 88] (fun ((p, S', n, sb, wb, lp, ls) : Nat × DB × Nat × Buf × Buf × Nat × List Lg) => [(6, iN n), (7, iN p)]) (fun (p, S', n, sb, wb, lp, ls) => G ++ eH ⟨r.p, sb, wb⟩ S'.1 ⟨b.p, lp, ls⟩ S'.2) (fun (p, S', n, sb, wb, lp, ls) => p ≤ S.2.logs.length ∧ takeO l (S.2.logs.length - p) p S' n = takeO l S.2.logs.length 0 S 0 ∧ okS (B + 1320 * p) S' ∧ S'.2.logs.length = S.2.logs.length ∧ n ≤ 66 * p ∧ upS S' ∧ bOk ⟨r.p, sb, wb⟩ S'.1 ⟨b.p, lp, ls⟩ S'.2) (fun (p, _) => S.2.logs.length - p) ((0, S, 0, r.sb, r.wb, b.lp, b.ls)) _ (Wk.refl _ _) (rfl) ?_ ?_ ?_
  · repeat' (first | exact True.intro | refine And.intro ?_ ?_ | rfl)
  · exact ⟨Nat.zero_le _, rfl, hS, rfl, Nat.zero_le _, hu, hk⟩
  · rintro ⟨p, S1, n1, sb1, wb1, lp1, ls1⟩ d ⟨hp, hto, hS1, hN1, hn1, hu1, hk1'⟩
    dsimp only at hp hto hS1 hN1 hn1 hu1 hk1' ⊢
    have hls1 : ls1.length = S.2.logs.length := by rw [← hN1, ← hk1'.logs, logs_len]
    by_cases hpN : p < S.2.logs.length
    · obtain ⟨f, hf⟩ : ∃ f, S.2.logs.length - p = f + 1 := ⟨S.2.logs.length - p - 1, by omega⟩
      rw [hf] at hto
      rw [← hto]
      repeat' (conv => whnf
               first
               | (with_reducible refine NextSt.mk ?_)
               | (with_reducible refine OnBB.tt ?_)
               | ((with_reducible apply LoadSt.box); · (repeat (first | exact List.Mem.head _ | with_reducible apply List.mem_append_right)))
               | ((with_reducible apply Cmp.yes); · (dsimp only; omega)))
      refine LoopSt.fix [4, 5, 6, 8, 9, 10, 11, 12, 13, 25, 26, 27, 28, 29, 30, 31, 32, 33, 34, 35, 36, 37, 38, 39, 40, 41, 42, 43, 44, 45, 46, 47, 48, 49, 50, 51, 52, 53, 54, 55, 56, 57, 58, 59, 60, 61, 62, 63, 64, 65, 66, 67, 68, 69, 70, 71, 72, 73, 74, 75, 76, 77, 78, 79, 80, 81, 82, 83, 84, 85, 86, 87, 88] (fun ((no, S', n, sb, wb, lp, ls) : Nat × DB × Nat × Buf × Buf × Nat × List Lg) => [(6, iN n), (8, iN no)]) (fun (no, S', n, sb, wb, lp, ls) => G ++ eH ⟨r.p, sb, wb⟩ S'.1 ⟨b.p, lp, ls⟩ S'.2) (fun (no, S', n, sb, wb, lp, ls) => no ≤ 66 ∧ takeIn l p (66 - no) no S' n = takeIn l p 66 0 S1 n1 ∧ okS (B + 1320 * p + 20 * no) S' ∧ S'.2.logs.length = S.2.logs.length ∧ n ≤ 66 * p + no ∧ upS S' ∧ bOk ⟨r.p, sb, wb⟩ S'.1 ⟨b.p, lp, ls⟩ S'.2) (fun (no, _) => 66 - no) ((0, S1, n1, sb1, wb1, lp1, ls1)) _ (Wk.refl _ _) (rfl) ?_ ?_ ?_
      · repeat' (first | exact True.intro | refine And.intro ?_ ?_ | rfl)
      · exact ⟨Nat.zero_le _, rfl, hS1, hN1, by omega, hu1, hk1'⟩
      · rintro ⟨no, S2, n2, sb, wb, lp, ls⟩ d ⟨hno, hti, hS2, hN2, hn2, hu2, hk2⟩
        dsimp only at hno hti hS2 hN2 hn2 hu2 hk2 ⊢
        have hlg2 := hk2.logs
        have hls : ls.length = S.2.logs.length := by rw [← hN2, ← hlg2, logs_len]
        have hg : S2.2.logs.getD p [] = (ls.getD p default).2 := by rw [← hlg2]; exact logs_get (b := ⟨b.p, lp, ls⟩) (by show p < ls.length; omega)
        have hlen := hS2.wf.log p (by omega)
        rw [hg] at hlen
        by_cases hlt : no ≤ (ls.getD p default).2.length
        · obtain ⟨g, hgf⟩ : ∃ g, 66 - no = g + 1 := ⟨66 - no - 1, by omega⟩
          have hg2 : 66 - (no + 1) = g := by omega
          rw [hgf, takeIn, hg, if_pos hlt] at hti
          repeat' (conv => whnf
                   first
                   | (((with_reducible apply LoadSt.ownd (g := slV)); (· (repeat (first | exact List.Mem.head _ | with_reducible apply List.mem_append_right | with_reducible apply List.mem_cons_of_mem))); (· (exact Nat.zero_add _)); (· ((simp only [List.length_map, List.length_append, List.length_cons, List.length_nil, List.length_take, List.length_drop, List.length_replicate, List.length_set] at *; omega)))); unfold slV)
                   | (with_reducible refine NextSt.mk ?_)
                   | (with_reducible refine OnBB.tt ?_)
                   | ((with_reducible apply LoadSt.box); · (repeat (first | exact List.Mem.head _ | with_reducible apply List.mem_append_right)))
                   | ((with_reducible refine AllocSt.mk ?_); intro _b _hb _hbO)
                   | ((with_reducible apply StoreSt.box); (· (repeat (exact Upd.hd))); (· rfl); (· rfl); (· rfl))
                   | ((with_reducible apply IdxSl.own1); (· rfl); (· with_reducible rfl); · ((simp only [List.length_map, List.length_append, List.length_cons, List.length_nil, List.length_take, List.length_drop, List.length_replicate, List.length_set] at *; omega)))
                   | ((with_reducible apply Cmp.yes); · (dsimp only; omega)))
          conv => whnf
          obtain ⟨bx, hbx⟩ : ∃ x, x = _b := ⟨_, rfl⟩
          subst hbx
          refine LoopSt.fix [9, 11, 12, 38, 39, 40, 41, 42, 43, 44, 45, 46, 47, 48, 49, 50, 51, 52, 53, 54, 55, 56, 57, 58, 59, 60, 61, 62, 63, 64, 65, 66, 67, 68, 69, 70, 71, 72, 73, 74] (fun (i : Nat) => [(9, .bool (bst (l.take i) p no).isSome), (11, iN i)]) (fun i => (bx, .cells ⟨enV ((bst (l.take i) p no).getD default)⟩ 70 (0, 0)) :: (G ++ eH ⟨r.p, sb, wb⟩ S2.1 ⟨b.p, lp, ls⟩ S2.2)) (fun i => i ≤ l.length) (fun i => l.length - i) (0) _ (Wk.refl _ _) (rfl) ?_ ?_ ?_
          · repeat' (first | exact True.intro | refine And.intro ?_ ?_ | rfl)
          · exact Nat.zero_le _
          · intro i d5 hi
            dsimp only
            by_cases hil : i < l.length
            · have hst := bst_take (p := p) (no := no) hil
              have hew := hw _ (getD_mem' (d := default) hil)
              obtain ⟨e, he⟩ : ∃ x, x = l.getD i default := ⟨_, rfl⟩
              rw [← he] at hst hew
              have e83 := fun h O => f83 e hew.2.2 h O
              by_cases hC : enOk e ∧ e.office = (p : Int) ∧ e.no = (no : Int)
              · obtain ⟨hok, ho, hn⟩ := id hC
                rw [show chkE e = 0 from if_pos hok] at e83
                have hbl := True.intro
                cases hacc : bst (l.take i) p no with
                | none =>
                  rw [hacc, show bst1 (p : Int) (no : Int) none e = some e from if_pos hC] at hst
                  rw [Option.isSome_none, Option.getD_none]
                  repeat' (conv => whnf
                           first
                           | (((with_reducible apply LoadSt.rdg (g := enV) (s := 3)); (· rfl); (· exact Rd.cons (Rd.appL hr)); (· exact fun _ => rfl); (· decide); (· (omega))); rw [← he])
                           | ((with_reducible refine CallSt.rd (f := 83) (X := .int .i64 0) ?_ ?_); (· exact e83 _ _))
                           | ((with_reducible apply IdxSl.rdg (g := enV) (s := 3)); (· with_reducible assumption); (· exact fun _ => rfl); (· decide); (· rfl); (· with_reducible rfl); (· (omega)); · (omega))
                           | (with_reducible refine NextSt.mk ?_)
                           | (with_reducible refine OnBB.tt ?_)
                           | (with_reducible refine OnBB.ff ?_)
                           | ((with_reducible apply NW.addN); (· with_reducible rfl); (· exact natL _); (· omega))
                           | ((with_reducible apply Cmp.yes); · omega)
                           | ((with_reducible apply LoadSt.box); · (repeat (exact List.Mem.head _)))
                           | ((with_reducible apply LoadSt.boxAgg); · (repeat (exact List.Mem.head _)))
                           | ((with_reducible refine AllocSt.mk ?_); intro _b _hb _hbO)
                           | ((with_reducible apply StoreSt.box); (· (repeat (first | exact Upd.hd | apply Upd.tl))); (· rfl); (· rfl); (· rfl)))
                  refine RoundFix.mk (i + 1) ?_ ?_ _ rfl (Wk.drop (by (try dsimp only); rw [hst]; exact List.Sublist.cons _ (List.Sublist.refl _))) ?_
                  · omega
                  · repeat' (first | exact True.intro | refine And.intro ?_ ?_ | exact congrArg Value.bool (by (rw [hst]; rfl)) | rfl)
                  · omega
                | some x =>
                  rw [Option.isSome_some, Option.getD_some]
                  by_cases hbl : Op.bytesLess e.body x.body = true
                  · rw [hacc, show bst1 (p : Int) (no : Int) (some x) e = some e from by unfold bst1; rw [if_pos hC]; simp only [if_pos hbl]] at hst
                    repeat' (conv => whnf
                             first
                             | (((with_reducible apply LoadSt.rdg (g := enV) (s := 3)); (· rfl); (· exact Rd.cons (Rd.appL hr)); (· exact fun _ => rfl); (· decide); (· (omega))); rw [← he])
                             | ((with_reducible refine CallSt.rd (f := 83) (X := .int .i64 0) ?_ ?_); (· exact e83 _ _))
                             | ((with_reducible apply IdxSl.rdg (g := enV) (s := 3)); (· with_reducible assumption); (· exact fun _ => rfl); (· decide); (· rfl); (· with_reducible rfl); (· (omega)); · (omega))
                             | (with_reducible refine NextSt.mk ?_)
                             | (with_reducible refine OnBB.tt ?_)
                             | (with_reducible refine OnBB.ff ?_)
                             | ((with_reducible apply NW.addN); (· with_reducible rfl); (· exact natL _); (· omega))
                             | ((with_reducible apply Cmp.yes); · omega)
                             | ((with_reducible apply LoadSt.box); · (repeat (first | exact List.Mem.head _ | with_reducible apply List.mem_cons_of_mem)))
                             | ((with_reducible apply LoadSt.boxAgg); · (repeat (exact List.Mem.head _)))
                             | ((with_reducible refine AllocSt.mk ?_); intro _b _hb _hbO)
                             | ((with_reducible apply StoreSt.box); (· (repeat (first | exact Upd.hd | apply Upd.tl))); (· rfl); (· rfl); (· rfl)))
                    refine RoundFix.mk (i + 1) ?_ ?_ _ rfl (Wk.drop (by (try dsimp only); rw [hst]; exact List.Sublist.cons _ (List.Sublist.refl _))) ?_
                    · omega
                    · repeat' (first | exact True.intro | refine And.intro ?_ ?_ | exact congrArg Value.bool (by (rw [hst]; rfl)) | rfl)
                    · omega
                  · rw [hacc, show bst1 (p : Int) (no : Int) (some x) e = some x from by unfold bst1; rw [if_pos hC]; simp only [if_neg hbl]] at hst
                    repeat' (conv => whnf
                             first
                             | (((with_reducible apply LoadSt.rdg (g := enV) (s := 3)); (· rfl); (· exact Rd.cons (Rd.appL hr)); (· exact fun _ => rfl); (· decide); (· (omega))); rw [← he])
                             | ((with_reducible refine CallSt.rd (f := 83) (X := .int .i64 0) ?_ ?_); (· exact e83 _ _))
                             | ((with_reducible apply IdxSl.rdg (g := enV) (s := 3)); (· with_reducible assumption); (· exact fun _ => rfl); (· decide); (· rfl); (· with_reducible rfl); (· (omega)); · (omega))
                             | (with_reducible refine NextSt.mk ?_)
                             | (with_reducible refine OnBB.tt ?_)
                             | (with_reducible refine OnBB.ff ?_)
                             | ((with_reducible apply NW.addN); (· with_reducible rfl); (· exact natL _); (· omega))
                             | ((with_reducible apply Cmp.yes); · omega)
                             | ((with_reducible apply Cmp.no); · omega)
                             | ((with_reducible apply LoadSt.box); · (repeat (first | exact List.Mem.head _ | with_reducible apply List.mem_cons_of_mem)))
                             | ((with_reducible apply LoadSt.boxAgg); · (repeat (exact List.Mem.head _)))
                             | ((with_reducible refine AllocSt.mk ?_); intro _b _hb _hbO)
                             | ((with_reducible apply StoreSt.box); (· (repeat (exact Upd.hd))); (· rfl); (· rfl); (· rfl)))
                    refine RoundFix.mk (i + 1) ?_ ?_ _ rfl (Wk.drop (by (try dsimp only); rw [hst]; exact List.Sublist.cons _ (List.Sublist.refl _))) ?_
                    · omega
                    · repeat' (first | exact True.intro | refine And.intro ?_ ?_ | exact congrArg Value.bool (by (rw [hst]; rfl)) | rfl)
                    · omega
              · rw [show bst1 (p : Int) (no : Int) (bst (l.take i) p no) e = bst (l.take i) p no from if_neg hC] at hst
                have hbl := True.intro
                by_cases hok : enOk e
                · rw [show chkE e = 0 from if_pos hok] at e83
                  by_cases ho : e.office = (p : Int)
                  · have hn : ¬ e.no = (no : Int) := fun hx => hC ⟨hok, ho, hx⟩
                    repeat' (conv => whnf
                             first
                             | (((with_reducible apply LoadSt.rdg (g := enV) (s := 3)); (· rfl); (· exact Rd.cons (Rd.appL hr)); (· exact fun _ => rfl); (· decide); (· (omega))); rw [← he])
                             | ((with_reducible refine CallSt.rd (f := 83) (X := .int .i64 0) ?_ ?_); (· exact e83 _ _))
                             | ((with_reducible apply IdxSl.rdg (g := enV) (s := 3)); (· with_reducible assumption); (· exact fun _ => rfl); (· decide); (· rfl); (· with_reducible rfl); (· (omega)); · (omega))
                             | (with_reducible refine NextSt.mk ?_)
                             | (with_reducible refine OnBB.tt ?_)
                             | (with_reducible refine OnBB.ff ?_)
                             | ((with_reducible apply NW.addN); (· with_reducible rfl); (· exact natL _); (· omega))
                             | ((with_reducible apply Cmp.yes); · omega)
                             | ((with_reducible apply Cmp.no); · omega)
                             | ((with_reducible apply LoadSt.box); · (repeat (exact List.Mem.head _)))
                             | ((with_reducible apply LoadSt.boxAgg); · (repeat (exact List.Mem.head _)))
                             | ((with_reducible refine AllocSt.mk ?_); intro _b _hb _hbO)
                             | ((with_reducible apply StoreSt.box); (· (repeat (exact Upd.hd))); (· rfl); (· rfl); (· rfl)))
                    refine RoundFix.mk (i + 1) ?_ ?_ _ rfl (Wk.drop (by (try dsimp only); rw [hst]; exact List.Sublist.cons _ (List.Sublist.refl _))) ?_
                    · omega
                    · repeat' (first | exact True.intro | refine And.intro ?_ ?_ | exact congrArg Value.bool (by (rw [hst]; done)) | rfl)
                    · omega
                  · skip
                    repeat' (conv => whnf
                             first
                             | (((with_reducible apply LoadSt.rdg (g := enV) (s := 3)); (· rfl); (· exact Rd.cons (Rd.appL hr)); (· exact fun _ => rfl); (· decide); (· (omega))); rw [← he])
                             | ((with_reducible refine CallSt.rd (f := 83) (X := .int .i64 0) ?_ ?_); (· exact e83 _ _))
                             | ((with_reducible apply IdxSl.rdg (g := enV) (s := 3)); (· with_reducible assumption); (· exact fun _ => rfl); (· decide); (· rfl); (· with_reducible rfl); (· (omega)); · (omega))
                             | (with_reducible refine NextSt.mk ?_)
                             | (with_reducible refine OnBB.tt ?_)
                             | (with_reducible refine OnBB.ff ?_)
                             | ((with_reducible apply NW.addN); (· with_reducible rfl); (· exact natL _); (· omega))
                             | ((with_reducible apply Cmp.yes); · omega)
                             | ((with_reducible apply Cmp.no); · omega)
                             | ((with_reducible apply LoadSt.box); · (repeat (exact List.Mem.head _)))
                             | ((with_reducible apply LoadSt.boxAgg); · (repeat (exact List.Mem.head _)))
                             | ((with_reducible refine AllocSt.mk ?_); intro _b _hb _hbO)
                             | ((with_reducible apply StoreSt.box); (· (repeat (exact Upd.hd))); (· rfl); (· rfl); (· rfl)))
                    refine RoundFix.mk (i + 1) ?_ ?_ _ rfl (Wk.drop (by (try dsimp only); rw [hst]; exact List.Sublist.cons _ (List.Sublist.refl _))) ?_
                    · omega
                    · repeat' (first | exact True.intro | refine And.intro ?_ ?_ | exact congrArg Value.bool (by (rw [hst]; done)) | rfl)
                    · omega
                · rw [show chkE e = 92 from if_neg hok] at e83
                  repeat' (conv => whnf
                           first
                           | (((with_reducible apply LoadSt.rdg (g := enV) (s := 3)); (· rfl); (· exact Rd.cons (Rd.appL hr)); (· exact fun _ => rfl); (· decide); (· (omega))); rw [← he])
                           | ((with_reducible refine CallSt.rd (f := 83) (X := .int .i64 92) ?_ ?_); (· exact e83 _ _))
                           | ((with_reducible apply IdxSl.rdg (g := enV) (s := 3)); (· with_reducible assumption); (· exact fun _ => rfl); (· decide); (· rfl); (· with_reducible rfl); (· (omega)); · (omega))
                           | (with_reducible refine NextSt.mk ?_)
                           | (with_reducible refine OnBB.tt ?_)
                           | (with_reducible refine OnBB.ff ?_)
                           | ((with_reducible apply NW.addN); (· with_reducible rfl); (· exact natL _); (· omega))
                           | ((with_reducible apply Cmp.yes); · omega)
                           | ((with_reducible apply Cmp.no); · omega)
                           | ((with_reducible apply LoadSt.boxAgg); · (repeat (exact List.Mem.head _)))
                           | ((with_reducible refine AllocSt.mk ?_); intro _b _hb _hbO)
                           | ((with_reducible apply StoreSt.box); (· (repeat (exact Upd.hd))); (· rfl); (· rfl); (· rfl)))
                  refine RoundFix.mk (i + 1) ?_ ?_ _ rfl (Wk.drop (by (try dsimp only); rw [hst]; exact List.Sublist.cons _ (List.Sublist.refl _))) ?_
                  · omega
                  · repeat' (first | exact True.intro | refine And.intro ?_ ?_ | exact congrArg Value.bool (by (rw [hst]; done)) | rfl)
                  · omega
            · have : i = l.length := by omega
              subst this
              rw [List.take_length]
              cases hb : bst l p no with
              | none =>
                rw [hb] at hti
                rw [Option.isSome_none, Option.getD_none]
                repeat' (conv => whnf
                         first
                         | (with_reducible refine NextSt.mk ?_)
                         | (with_reducible refine OnBB.ff ?_)
                         | ((with_reducible apply NW.addN); (· with_reducible rfl); (· exact natL _); (· omega))
                         | ((with_reducible apply Cmp.no); · omega))
                refine RoundFix.mk ((no + 1, S2, n2, sb, wb, lp, ls)) ?_ ?_ _ rfl (Wk.drop (by (try dsimp only); (try simp only [List.cons_append, List.nil_append]); (repeat (first | with_reducible exact List.Sublist.refl _ | with_reducible apply List.Sublist.cons)))) ?_
                · dsimp only; omega
                · repeat' (first | exact True.intro | refine And.intro ?_ ?_ | rfl)
                · refine ⟨by omega, by rw [hg2]; exact hti, hS2.mono ?_, hN2, ?_, hu2, hk2⟩ <;> (dsimp only; omega)
              | some e =>
                rw [hb] at hti
                rw [Option.isSome_some, Option.getD_some]
                have hok := bst_ok hb
                have e123 := fun h => f123 ⟨b.p, lp, ls⟩ r.p S2.2.at_ S2.2.falls e (by rw [hlg2]; exact hS2.wf) hk2.ls hok.1.w.2.2 h
                rw [hlg2] at e123
                by_cases hc : chg S2.2.logs e
                · rw [decide_eq_true hc] at e123
                  have e132 := fun h => f132 ⟨r.p, sb, wb⟩ ⟨b.p, lp, ls⟩ S2 _ e hS2 (by omega) hu2 hk2 hc h
                  have hS3 := hS2.put hc
                  simp only [if_pos hc] at hti
                  repeat' (conv => whnf
                           first
                           | (((with_reducible apply CallSt.rd (f := 123) (X := .bool true)); (· apply GSpec.locRet (H := bke b.p (bkV ⟨b.p, lp, ls⟩) r.p S2.2.at_ S2.2.falls :: lgc ⟨b.p, lp, ls⟩ :: lgHp ls); (· (repeat (first | with_reducible exact Loc.last | with_reducible apply Loc.tl | with_reducible apply Loc.skip))); (· exact e123 _))))
                           | (with_reducible refine NextSt.mk ?_)
                           | (with_reducible refine OnBB.tt ?_)
                           | (with_reducible refine OnBB.ff ?_)
                           | ((with_reducible apply Cmp.no); · omega)
                           | ((with_reducible apply LoadSt.boxAgg); · (repeat (exact List.Mem.head _))))
                  conv => whnf
                  with_reducible apply CallSt.loc (f := 132) (H := eH ⟨r.p, sb, wb⟩ S2.1 ⟨b.p, lp, ls⟩ S2.2) (R := BE ⟨r.p, sb, wb⟩ ⟨b.p, lp, ls⟩ (putV S2 e).1 (.int .i64 (putV S2 e).2))
                  · (repeat (first | with_reducible exact Loc.last | with_reducible apply Loc.tl | with_reducible apply Loc.skip))
                  · exact e132 _
                  rintro _ _ ⟨⟨p3, sb3, wb3⟩, ⟨q3, lp3, ls3⟩, hp3, hq3, hk3, rfl, rfl⟩
                  have hp3 : p3 = r.p := hp3
                  have hq3 : q3 = b.p := hq3
                  subst hp3 hq3
                  by_cases hz : (putV S2 e).2 = 0
                  · rw [if_pos hz] at hti
                    have hu3 := hu2.put hz
                    repeat' (conv => whnf
                             first
                             | (with_reducible refine NextSt.mk ?_)
                             | (with_reducible refine OnBB.ff ?_)
                             | ((with_reducible apply NW.addN); (· with_reducible rfl); (· exact natL _); (· omega))
                             | ((with_reducible apply Cmp.no); · omega))
                    refine RoundFix.mk ((no + 1, (putV S2 e).1, n2 + 1, sb3, wb3, lp3, ls3)) ?_ ?_ _ rfl (Wk.drop (by (try dsimp only); (try simp only [List.cons_append, List.nil_append]); (repeat (first | with_reducible exact List.Sublist.refl _ | with_reducible apply List.Sublist.cons)))) ?_
                    · dsimp only; omega
                    · repeat' (first | exact True.intro | refine And.intro ?_ ?_ | rfl)
                    · refine ⟨by omega, by rw [hg2]; exact hti, hS3.mono ?_, ?_, ?_, hu3, hk3⟩
                      · dsimp only; omega
                      · rw [← hN2]; exact putV_len _ _
                      · dsimp only; omega
                  · rw [if_neg hz] at hti
                    repeat' (conv => whnf
                             first
                             | (with_reducible refine NextSt.mk ?_)
                             | (with_reducible refine OnBB.tt ?_)
                             | ((with_reducible apply Cmp.yes); · omega))
                    rw [show takeO l (f + 1) p S1 n1 = ⟨(putV S2 e).1, 0, (putV S2 e).2⟩ from by rw [takeO, ← hti, if_neg hz]]
                    refine FinSt.own (R := BEG r b (putV S2 e).1 _ G) (O1 := G ++ eH ⟨r.p, sb3, wb3⟩ (putV S2 e).1.1 ⟨b.p, lp3, ls3⟩ (putV S2 e).1.2) (List.Sublist.cons _ (List.Sublist.refl _)) (BEG.mk hk3)
                · rw [decide_eq_false hc] at e123
                  simp only [if_neg hc] at hti
                  repeat' (conv => whnf
                           first
                           | (((with_reducible apply CallSt.rd (f := 123) (X := .bool false)); (· apply GSpec.locRet (H := bke b.p (bkV ⟨b.p, lp, ls⟩) r.p S2.2.at_ S2.2.falls :: lgc ⟨b.p, lp, ls⟩ :: lgHp ls); (· (repeat (first | with_reducible exact Loc.last | with_reducible apply Loc.tl | with_reducible apply Loc.skip))); (· exact e123 _))))
                           | (with_reducible refine NextSt.mk ?_)
                           | (with_reducible refine OnBB.tt ?_)
                           | (with_reducible refine OnBB.ff ?_)
                           | ((with_reducible apply NW.addN); (· with_reducible rfl); (· exact natL _); (· omega))
                           | ((with_reducible apply Cmp.no); · omega)
                           | ((with_reducible apply LoadSt.boxAgg); · (repeat (exact List.Mem.head _))))
                  refine RoundFix.mk ((no + 1, S2, n2, sb, wb, lp, ls)) ?_ ?_ _ rfl (Wk.drop (by (try dsimp only); (try simp only [List.cons_append, List.nil_append]); (repeat (first | with_reducible exact List.Sublist.refl _ | with_reducible apply List.Sublist.cons)))) ?_
                  · dsimp only; omega
                  · repeat' (first | exact True.intro | refine And.intro ?_ ?_ | rfl)
                  · refine ⟨by omega, by rw [hg2]; exact hti, hS2.mono ?_, hN2, ?_, hu2, hk2⟩ <;> (dsimp only; omega)
        · have hti2 : (⟨S2, n2, 0⟩ : Tk) = takeIn l p 66 0 S1 n1 := by
            rw [← hti]
            cases 66 - no with
            | zero => rfl
            | succ g => rw [takeIn, hg, if_neg hlt]
          repeat' (conv => whnf
                   first
                   | (((with_reducible apply LoadSt.ownd (g := slV)); (· (repeat (first | exact List.Mem.head _ | with_reducible apply List.mem_append_right | with_reducible apply List.mem_cons_of_mem))); (· (exact Nat.zero_add _)); (· ((simp only [List.length_map, List.length_append, List.length_cons, List.length_nil, List.length_take, List.length_drop, List.length_replicate, List.length_set] at *; omega)))); unfold slV)
                   | (with_reducible refine NextSt.mk ?_)
                   | (with_reducible refine OnBB.ff ?_)
                   | ((with_reducible apply NW.addN); (· with_reducible rfl); (· exact natL _); (· omega))
                   | ((with_reducible apply LoadSt.box); · (repeat (first | exact List.Mem.head _ | with_reducible apply List.mem_append_right)))
                   | ((with_reducible apply IdxSl.own1); (· rfl); (· with_reducible rfl); · ((simp only [List.length_map, List.length_append, List.length_cons, List.length_nil, List.length_take, List.length_drop, List.length_replicate, List.length_set] at *; omega)))
                   | ((with_reducible apply Cmp.no); · (dsimp only; omega)))
          refine RoundFix.mk ((p + 1, S2, n2, sb, wb, lp, ls)) ?_ ?_ _ rfl (Wk.drop (by (try dsimp only); (try simp only [List.cons_append, List.nil_append]); (repeat (with_reducible exact List.Sublist.refl _)))) ?_
          · dsimp only; omega
          · repeat' (first | exact True.intro | refine And.intro ?_ ?_ | rfl)
          · refine ⟨by omega, ?_, hS2.mono ?_, hN2, ?_, hu2, hk2⟩
            · rw [show S.2.logs.length - (p + 1) = f by omega]
              conv => rhs; rw [takeO, ← hti2, if_pos rfl]
            · dsimp only; omega
            · dsimp only; omega
    · have : p = S.2.logs.length := by omega
      subst this
      rw [Nat.sub_self] at hto
      rw [← hto]
      repeat' (conv => whnf
               first
               | (with_reducible refine NextSt.mk ?_)
               | (with_reducible refine OnBB.ff ?_)
               | ((with_reducible apply LoadSt.box); · (repeat (first | exact List.Mem.head _ | with_reducible apply List.mem_append_right)))
               | ((with_reducible apply Cmp.no); · (dsimp only; omega)))
      refine FinSt.own (R := BEG r b S1 _ G) (O1 := G ++ eH ⟨r.p, sb1, wb1⟩ S1.1 ⟨b.p, lp1, ls1⟩ S1.2) (List.Sublist.refl _) (BEG.mk hk1')
end Go.Proofs.Ytlbmlimaobkhpaa
