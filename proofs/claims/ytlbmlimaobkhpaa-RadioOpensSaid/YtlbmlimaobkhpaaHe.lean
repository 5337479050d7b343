/- RadioOpens: the walk. -/
import Derived.Test.YtlbmlimaobkhpaaHd
import Derived.Test.YtlbmlimaobkhpaaLe
set_option linter.unusedVariables false
set_option linter.unusedSimpArgs false
set_option linter.unusedSectionVars false
/- RadioOpens: the walk. (printed by wip/g15.py) -/
namespace Go.Gv
variable {P : Program}
/-- A call that makes what is new; what is owned then is told in another order. -/
theorem CallSt.newP {f : FuncId} {args : List Value} {h : View} {O : Hp} {K : Value → View → Hp → Prop} {R : Value → Hp → Prop} (sp : GSpec P f args h O (New O R)) (hk : ∀ v H, R v H → ∃ O2, (H ++ O).Perm O2 ∧ K v h O2) : CallSt P f args h O K := by
  refine .part O [] (Wk.perm (by rw [List.append_nil])) (fun v O' => ∃ H, O' = H ++ O ∧ R v H) sp fun v O' hR => ?_
  obtain ⟨H, rfl, hr⟩ := hR
  obtain ⟨O2, hp, k⟩ := hk v H hr
  exact ⟨O2, Wk.perm (by rw [List.append_nil]; exact hp), k⟩
theorem perm_in (A E D X : Hp) : (A ++ (E ++ (D ++ X))).Perm (E ++ ((D ++ A) ++ X)) := by
  have h1 : (A ++ (E ++ (D ++ X))).Perm (E ++ (A ++ (D ++ X))) := by
    rw [← List.append_assoc, ← List.append_assoc E]
    exact List.perm_append_comm.append_right _
  refine h1.trans (List.Perm.append_left E ?_)
  rw [← List.append_assoc]
  exact List.perm_append_comm.append_right _
theorem perm_on (A E X : Hp) : (A ++ (E ++ X)).Perm ((E ++ A) ++ X) := by
  rw [← List.append_assoc]
  exact List.perm_append_comm.append_right _
end Go.Gv
namespace Go.Proofs.Ytlbmlimaobkhpaa
open Go Go.Gv
set_option maxRecDepth 100000
set_option maxHeartbeats 16000000
set_option linter.unusedSimpArgs false
set_option linter.unusedVariables false
theorem condStep {P : Program} {c : Nat} {a b : Code} {s : List Value} {h : View} {O : Hp} {K : Exit → List Value → View → Hp → Prop} {v : Value} (hv : getS s c = v) (hk : OnB v fun t => match t with | true => codeK P a s h O K | false => codeK P b s h O K) : codeK P (.cond (.tmp c) a b) s h O K := by
  show evK s (.tmp c) _
  rw [evK_eq]
  show OnB (getS s c) _
  rw [hv]; exact hk
theorem openI_wf {C : List Str} (hC : ∀ s ∈ C, s.length = 64) : ∀ f a L, wfL L → a ≤ C.length → wfL (openI C f a L).1 ∧ (openI C f a L).2 ≤ C.length ∧ (openI C f a L).1.length = L.length
  | 0, a, L, hw, ha => ⟨hw, ha, rfl⟩
  | f + 1, a, L, hw, ha => by
    rw [openI_succ]
    split
    · split
      · exact ⟨hw, ha, rfl⟩
      · rename_i s hs
        split
        · exact ⟨hw, ha, rfl⟩
        · split
          · rename_i hc
            obtain ⟨h1, h2, h3⟩ := openI_wf hC f (a + secN s.length) (chgd L (enOf s)) (hw.chgd hc) (recC_some hC hs).2.2
            exact ⟨h1, h2, by rw [h3, chgd_len]⟩
          · exact ⟨hw, ha, rfl⟩
    · exact ⟨hw, ha, rfl⟩
theorem openV_some {d : Dk} {B : Nat} {k : Bk} {e : Int} (hd : d.okB B) (h : openV d = (some k, e)) : e = 0 ∧ upS (d, k) ∧ okS B (d, k) ∧ 1 ≤ k.logs.length := by
  have hcm := cont_mem hd
  unfold openV at h
  split at h
  · cases h
  · rename_i ho
    have ho : d.off = false := by cases hx : d.off <;> simp_all
    split at h
    · cases h
    · rename_i s hs
      split at h
      · rename_i hh
        obtain ⟨h1, h2, h3, h4⟩ := hh
        have hr := recC_some hcm hs
        have hsp := secN_pos s.length
        obtain ⟨w1, w2, w3⟩ := openI_wf hcm (cont d).length 1 (List.replicate (s.getD 1 0).toNat []) (wfL.nil h4) (by omega)
        rw [List.length_replicate] at w3
        simp only [Prod.mk.injEq, Option.some.injEq] at h
        obtain ⟨rfl, rfl⟩ := h
        exact ⟨rfl, ⟨rfl, ho⟩, ⟨hd, w1, Nat.le_trans w2 (Nat.le_of_eq (cont_len d))⟩, by show 1 ≤ List.length _; rw [w3]; exact h3⟩
      · cases h
theorem makeV_okB {d : Dk} {B : Nat} (hd : d.okB B) (n : Int) : (makeV d n).1.okB (B + 20) := by
  have h1 := keepV_okB hd 0 (payB n.toNat)
  have h4 : secN (payB n.toNat).length = 1 := by rw [payB_len]; rfl
  rw [h4] at h1
  unfold makeV
  split
  · exact hd.mono (by omega)
  · split
    · exact hd.mono (by omega)
    · split
      · exact h1.mono (by omega)
      · exact h1.mono (by omega)
theorem GotB.sp {r : Dr} {x : Dk × Option Bk × Int} {v : Value} {O' : Hp} (h : GotB r x v O') : ∃ r' G q, r'.p = r.p ∧ dOk r' x.1 ∧ O' = dHp r' x.1 ++ G ∧ v = .tuple ⟨[if x.2.1.isSome then pP q else .pointer none, .int .i64 x.2.2]⟩ := by
  obtain ⟨d, o, e⟩ := x
  cases o with
  | none =>
    obtain ⟨r', h1, h2, h3, h4⟩ := h
    exact ⟨r', [], 0, h1, h2, by rw [h3, List.append_nil], h4⟩
  | some k =>
    obtain ⟨r', b, h1, h2, h3, h4⟩ := h
    exact ⟨r', _, b.p, h1, h2.d, h3, h4⟩
theorem GotE.sp {r : Dr} {x : Dk × Option Bk × Int} {v : Value} {O' : Hp} (h : GotE r x v O') : ∃ r' G q, r'.p = r.p ∧ dOk r' x.1 ∧ O' = eHp r' x.1 ++ G ∧ v = .tuple ⟨[if x.2.1.isSome then pP q else .pointer none, .int .i64 x.2.2]⟩ := by
  obtain ⟨d, o, e⟩ := x
  cases o with
  | none =>
    obtain ⟨r', h1, h2, h3, h4⟩ := h
    exact ⟨r', [], 0, h1, h2, by rw [h3, List.append_nil], h4⟩
  | some k =>
    obtain ⟨r', b, h1, h2, h3, h4⟩ := h
    exact ⟨r', _, b.p, h1, h2.d, h3, h4⟩
theorem f69n (h : View) (O : Hp) : GSpec Try.prog 69 [.pointer none, .int .i64 1] h O (Ret O (.tuple ⟨[.pointer none, .int .i64 1]⟩)) := by
  refine GSpec.enter (fn := Try.f69) Try.func69 rfl (by kernel_rfl) ?_
  repeat' (conv => whnf
           first
           | (with_reducible refine NextSt.mk ?_)
           | (with_reducible refine OnBB.tt ?_))
  conv => whnf
  refine FinSt.ret (by (try dsimp only); (try simp only [List.cons_append, List.nil_append]); (repeat (first | with_reducible exact List.Sublist.refl _ | with_reducible exact List.nil_sublist _ | with_reducible apply List.Sublist.cons_cons | with_reducible apply sub_app | apply List.Sublist.cons_cons | apply sub_app | with_reducible apply List.Sublist.cons | with_reducible apply sub_skip))) ?_
  rfl
theorem f65n (h : View) (O : Hp) : GSpec Try.prog 65 [.pointer none] h O (Ret O (.tuple ⟨[.pointer none, .int .i64 1]⟩)) := by
  refine GSpec.enter (fn := Try.f65) Try.func65 rfl (by kernel_rfl) ?_
  repeat' (conv => whnf
           first
           | (with_reducible refine NextSt.mk ?_)
           | (with_reducible refine OnBB.tt ?_))
  conv => whnf
  refine FinSt.ret (by (try dsimp only); (try simp only [List.cons_append, List.nil_append]); (repeat (first | with_reducible exact List.Sublist.refl _ | with_reducible exact List.nil_sublist _ | with_reducible apply List.Sublist.cons_cons | with_reducible apply sub_app | apply List.Sublist.cons_cons | apply sub_app | with_reducible apply List.Sublist.cons | with_reducible apply sub_skip))) ?_
  rfl
def wrI (ct : List Str) (d : Dk) : Nat → Dk
  | 0 => d
  | k + 1 => ((wrI ct d k).write (k : Nat) (secV (ct.getD k []))).1
theorem wrI_okB {ct : List Str} {d : Dk} (h : d.okB 0) : ∀ k, (wrI ct d k).okB k
  | 0 => h
  | k + 1 => (wrI_okB h k).write _ _
theorem secV_le {s : Str} (h : s.length ≤ 9223372036854775807) : (secV s).length ≤ 9223372036854775807 := by
  unfold secV
  split
  · rw [List.length_append, List.length_replicate]; omega
  · exact h
theorem f12 (o s : Int) (a : Option Addr) (cap : Nat) (l : List En) (ct : List Str) (a2 : Option Addr) (c2 : Nat) (at_ : List Int) (a3 : Option Addr) (c3 : Nat) (n : Int) (hl : l.length ≤ 9223372036854775807)
    (hb : ∀ e ∈ l, (i64 e.office ∧ i64 e.no) ∧ e.body.length ≤ 9223372036854775807) (hcl : ct.length ≤ 9223372036854775807) (hcb : ∀ t ∈ ct, t.length ≤ 9223372036854775807) (hal : at_.length ≤ 9223372036854775807) (h : View) (O : Hp) (h1 : Rd h [] a (l.flatMap enV)) (h2 : Rd h [] a2 (ct.map sV)) (h3 : Rd h [] a3 (at_.map zV)) :
    GSpec Try.prog 12 [.agg ⟨[.int .i64 o, .int .i64 s, .slice a l.length cap]⟩, .slice a2 ct.length c2, .slice a3 at_.length c3, .int .i64 n] h O (Ret O (.bool true)) := by
  have e52 : ∀ O, GSpec Try.prog 52 [.agg ⟨[.int .i64 o, .int .i64 s, .slice a l.length cap]⟩] h O (Ret O (.bool (decide (Wd.few ⟨o, s, a, cap, l⟩)))) := fun O => f52 ⟨o, s, a, cap, l⟩ hl (fun e he => (hb e he).2) h O (h1.more (fun _ _ e => e) fun _ _ e => by cases e)
  by_cases hf : Wd.few ⟨o, s, a, cap, l⟩
  · rw [decide_eq_true hf] at e52
    by_cases h100 : ct.length ≤ 100
    · by_cases h24 : at_.length ≤ 24
      · obtain ⟨⟨hf1, hf2, hf3, hf4, hf5⟩, hf6⟩ := hf
        simp only at hf1 hf2 hf3 hf4 hf5 hf6
        have e53 : ∀ O, GSpec Try.prog 53 [.agg ⟨[.int .i64 o, .int .i64 s, .slice a l.length cap]⟩, .slice a3 at_.length c3] h O (New O (RowR (pickV l at_))) := fun O => f53 ⟨o, s, a, cap, l⟩ at_ a3 c3 (by omega) hl h O (h1.more (fun _ _ e => e) fun _ _ e => by cases e) (h3.more (fun _ _ e => e) fun _ _ e => by cases e)
        have hpw : ∀ e ∈ pickV l at_, enW e := fun e he => by
          have h3 := hb e (pickV_subs he)
          have h4 := hf6 e (pickV_subs he)
          exact ⟨h3.1.1, h3.1.2, by omega⟩
        have hgl := pickV_len (items := l) at_
        generalize pickV l at_ = g at *
        have hn1 : (1 : Int) ≤ (ct.length + 1 : Nat) ∧ ((ct.length + 1 : Nat) : Int) ≤ 4096 := by omega
        have hD : (Dk.mk0 (ct.length + 1)).okB 0 := Dk.okB.mk0 (by omega)
        refine GSpec.enter (fn := Try.f12) Try.func12 rfl (by kernel_rfl) ?_
        repeat' (conv => whnf
                 first
                 | ((with_reducible refine CallSt.rd (f := 17) (X := .bool true) ?_ ?_); (· exact f17 _ _))
                 | ((with_reducible refine CallSt.rd (f := 52) (X := .bool true) ?_ ?_); (· exact e52 _))
                 | ((apply CallSt.new (f34 ((ct.length + 1 : Nat) : Int) _ _); rintro _ _ hm; unfold MadeD at hm; rw [if_pos hn1, Int.toNat_natCast] at hm; obtain ⟨r0, rfl, rfl, hr0⟩ := hm))
                 | ((apply CallSt.new (f35 ((ct.length + 1 : Nat) : Int) _ _); rintro _ _ hm; unfold MadeE at hm; rw [if_pos hn1, Int.toNat_natCast] at hm; obtain ⟨s0, rfl, rfl, hs0⟩ := hm))
                 | (((with_reducible apply OnBB.yes); · rfl))
                 | (((with_reducible apply OnBB.no); · rfl))
                 | (with_reducible refine NextSt.mk ?_)
                 | ((with_reducible apply NW.addN); (· first | with_reducible rfl | exact natL _); (· first | with_reducible rfl | exact natL _); (· omega))
                 | ((with_reducible apply Cmp.no); · first | omega | (with_reducible assumption))
                 | ((with_reducible apply LoadSt.boxAgg); · (repeat (first | exact List.Mem.head _ | with_reducible apply List.mem_append_right | with_reducible apply List.mem_cons_of_mem)))
                 | ((with_reducible refine AllocSt.mk ?_); intro _b _hb _hbO))
        generalize Dk.mk0 (ct.length + 1) = d0 at *
        have hok := fun k => wrI_okB (ct := ct) hD k
        obtain ⟨p1, sb1, wb1⟩ := r0
        obtain ⟨p2, sb2, wb2⟩ := s0
        obtain ⟨bx, hbx⟩ : ∃ x, x = _b := ⟨_, rfl⟩
        subst hbx
        refine LoopSt.fix [8, 14, 70, 71, 72, 73, 74, 75, 76, 77, 78, 79, 80, 81, 82, 83, 84, 85, 86, 87, 88, 89, 90, 91, 92] (fun ((k, _) : Nat × Buf × Buf × Buf × Buf) => [(14, iN k)]) (fun (k, sb1, wb1, sb2, wb2) => eHp ⟨p2, sb2, wb2⟩ (wrI ct d0 k) ++ (dHp ⟨p1, sb1, wb1⟩ (wrI ct d0 k) ++ ((bx, .cells ⟨[.int .i64 o, .int .i64 s, .slice a l.length cap]⟩ 65 (0, 0)) :: O))) (fun (k, sb1, wb1, sb2, wb2) => k ≤ ct.length ∧ dOk ⟨p1, sb1, wb1⟩ (wrI ct d0 k) ∧ dOk ⟨p2, sb2, wb2⟩ (wrI ct d0 k)) (fun (k, _) => ct.length - k) ((0, sb1, wb1, sb2, wb2)) _ (Wk.refl _ _) (rfl) ?_ ?_ ?_
        · repeat' (first | exact True.intro | refine And.intro ?_ ?_ | rfl | exact congrArg (Value.int _) (by omega) | exact congrArg (fun n => Value.slice _ n _) (by (try dsimp only); omega))
        · exact ⟨Nat.zero_le _, hr0, hs0⟩
        · rintro ⟨k, sb3, wb3, sb4, wb4⟩ d2 ⟨hk, hkr, hks⟩
          dsimp only at hk hkr hks ⊢
          have hokk := hok k
          have hst : wrI ct d0 (k + 1) = ((wrI ct d0 k).write (k : Nat) (secV (ct.getD k []))).1 := rfl
          by_cases hkl : k < ct.length
          · have hqk := hcb _ (getD_mem' (d := []) hkl)
            have hsec := secV_le hqk
            generalize wrI ct d0 k = d at *
            have hdo := hokk.ok (by omega)
            repeat' (conv => whnf
                     first
                     | (((with_reducible refine DrawSt.walkF ([]) [0,1,2,3,4,5,6,7,8,9,10,11,12,13,14,15,16] mixed ?_ ?_ ?_); (· decide +kernel); (· (try dsimp only); (try simp only [List.cons_append, List.nil_append]); (repeat (first | with_reducible exact List.Sublist.refl _ | with_reducible exact List.nil_sublist _ | with_reducible apply List.Sublist.cons_cons | with_reducible apply sub_app | apply List.Sublist.cons_cons | apply sub_app | with_reducible apply List.Sublist.cons | with_reducible apply sub_skip)))))
                     | ((with_reducible refine CallSt.rd (f := 37) (X := sV (secV (ct.getD k []))) ?_ ?_); (· exact f37 (ct.getD k []) hqk _ _))
                     | (((with_reducible apply CallSt.loc (f := 36) (H := dHp _ d)); (· (repeat (first | with_reducible exact Loc.hd | with_reducible exact Loc.last | with_reducible exact Loc.one | with_reducible apply Loc.tl | with_reducible apply Loc.skip))); (· exact f36L _ d (k : Nat) (secV (ct.getD k [])) hdo hsec hkr _); rintro _ _ ⟨⟨p5, sb5, wb5⟩, hp5, rfl, hk5, rfl⟩; (obtain rfl : p5 = _ := hp5)))
                     | (((with_reducible apply CallSt.loc (f := 38) (H := eHp _ d)); (· (repeat (first | with_reducible exact Loc.hd | with_reducible exact Loc.last | with_reducible exact Loc.one | with_reducible apply Loc.tl | with_reducible apply Loc.skip))); (· exact f38 _ d (k : Nat) (secV (ct.getD k [])) hdo hsec hks _); rintro _ _ ⟨⟨p6, sb6, wb6⟩, hp6, rfl, hk6, rfl⟩; (obtain rfl : p6 = _ := hp6)))
                     | (((with_reducible apply Cmp.no); · exact fun h => h rfl))
                     | ((with_reducible refine SubSt.mk ?_ ?_); · (repeat (first | (intro _y _hy; cases _hy; done) | refine List.forall_mem_cons.2 ⟨by (repeat (first | exact List.Mem.head _ | with_reducible apply List.mem_append_right | with_reducible apply List.mem_cons_of_mem)), ?_⟩)))
                     | (with_reducible refine NextSt.mk ?_)
                     | (with_reducible refine OnBB.tt ?_)
                     | (with_reducible refine OnBB.ff ?_)
                     | ((with_reducible apply NW.addN); (· first | with_reducible rfl | exact natL _); (· first | with_reducible rfl | exact natL _); (· omega))
                     | ((with_reducible apply Cmp.yes); · first | omega | (with_reducible assumption) | (with_reducible rfl))
                     | ((with_reducible apply LoadSt.rdS); (· (repeat (first | with_reducible assumption | (with_reducible apply Buf.rd; with_reducible assumption) | (with_reducible apply Rd.appL; with_reducible assumption) | (with_reducible apply Rd.appL; with_reducible apply Buf.rd; with_reducible assumption) | with_reducible apply Rd.cons | with_reducible apply Rd.appR))); · (first | omega | (simp only [List.length_map, List.length_append, List.length_cons, List.length_nil, List.length_take, List.length_drop, List.length_replicate, List.length_set] at *; omega)))
                     | ((with_reducible apply IdxSl.rd1); (· with_reducible assumption); (· rfl); (· first | with_reducible rfl | exact natL _); (· (first | omega | (simp only [List.length_map, List.length_append, List.length_cons, List.length_nil, List.length_take, List.length_drop, List.length_replicate, List.length_set] at *; omega))); · (first | omega | (simp only [List.length_map, List.length_append, List.length_cons, List.length_nil, List.length_take, List.length_drop, List.length_replicate, List.length_set] at *; omega))))
            rw [← hst] at hk5 hk6 ⊢
            refine RoundFix.mk ((k + 1, sb5, wb5, sb6, wb6)) ?_ ?_ _ rfl (Wk.drop (by (try dsimp only); (try simp only [List.cons_append, List.nil_append]); (repeat (first | with_reducible exact List.Sublist.refl _ | with_reducible exact List.nil_sublist _ | with_reducible apply List.Sublist.cons_cons | with_reducible apply sub_app | apply List.Sublist.cons_cons | apply sub_app | with_reducible apply List.Sublist.cons | with_reducible apply sub_skip)))) ?_
            · dsimp only; omega
            · repeat' (first | exact True.intro | refine And.intro ?_ ?_ | rfl | exact congrArg (Value.int _) (by omega) | exact congrArg (fun n => Value.slice _ n _) (by (try dsimp only); omega))
            · exact ⟨by omega, hk5, hk6⟩
          · have : k = ct.length := by omega
            subst this
            clear hst
            generalize wrI ct d0 ct.length = d1 at *
            have hB2 : d1.sync.1.okB 101 := hokk.sync.mono (by omega)
            have hdo := hokk.ok (by omega)
            repeat' (conv => whnf
                     first
                     | (((with_reducible apply CallSt.loc (f := 39) (H := dHp _ d1)); (· (repeat (first | with_reducible exact Loc.hd | with_reducible exact Loc.last | with_reducible exact Loc.one | with_reducible apply Loc.tl | with_reducible apply Loc.skip))); (· exact f39 _ d1 hdo hkr _); rintro _ _ ⟨⟨p5, sb5, wb5⟩, hp5, rfl, hk5, rfl⟩; (obtain rfl : p5 = _ := hp5)))
                     | (((with_reducible apply CallSt.loc (f := 40) (H := eHp _ d1)); (· (repeat (first | with_reducible exact Loc.hd | with_reducible exact Loc.last | with_reducible exact Loc.one | with_reducible apply Loc.tl | with_reducible apply Loc.skip))); (· exact f40 _ d1 hdo hks _); rintro _ _ ⟨⟨p6, sb6, wb6⟩, hp6, rfl, hk6, rfl⟩; (obtain rfl : p6 = _ := hp6)))
                     | (with_reducible refine NextSt.mk ?_)
                     | (with_reducible refine OnBB.ff ?_)
                     | ((with_reducible apply Cmp.no); · first | omega | (with_reducible assumption)))
            conv => whnf
            generalize d1.sync.1 = d at *
            have hdo2 := hB2.ok (by omega)
            clear hkr hks hdo hokk hok
            rcases ho : openV d with ⟨ox, x1⟩
            have e65 := f65 ⟨p5, sb5, wb5⟩ d 101 hB2 (by decide) hk5 h
            have e66 := f66 ⟨p6, sb6, wb6⟩ d 101 hB2 (by decide) hk6 h
            rw [ho] at e65 e66
            cases ox with
            | none =>
              apply CallSt.new (R := OpenR p5 (none, x1))
              · apply GSpec.locNew (H := dHp ⟨p5, sb5, wb5⟩ d)
                · (repeat (first | with_reducible exact Loc.hd | with_reducible exact Loc.last | with_reducible exact Loc.one | with_reducible apply Loc.tl | with_reducible apply Loc.skip))
                · exact e65
              rintro _ _ ⟨rfl, rfl⟩
              rw [List.nil_append]
              repeat' (conv => whnf
                       first
                       | (with_reducible refine NextSt.mk ?_))
              conv => whnf
              apply CallSt.new (R := OpenE p6 (none, x1))
              · apply GSpec.locNew (H := eHp ⟨p6, sb6, wb6⟩ d)
                · (repeat (first | with_reducible exact Loc.hd | with_reducible exact Loc.last | with_reducible exact Loc.one | with_reducible apply Loc.tl | with_reducible apply Loc.skip))
                · exact e66
              rintro _ _ ⟨rfl, rfl⟩
              rw [List.nil_append]
              repeat' (conv => whnf
                       first
                       | (((with_reducible apply Cmp.no); · exact fun h => h rfl))
                       | (((with_reducible apply OnBB.yes); · rfl))
                       | (((with_reducible apply OnBB.no); · rfl))
                       | (((with_reducible refine CallSt.rd (f := 51) (X := .bool true) ?_ ?_); (· apply f51 ⟨p5, sb5, wb5⟩ ⟨p6, sb6, wb6⟩ d; (· with_reducible exact Gv.Loc.skip Gv.Loc.hd); (· with_reducible exact Gv.Loc.hd); (· exact hdo2); (· exact hk5); (· exact hk6))))
                       | (with_reducible refine NextSt.mk ?_))
              conv => whnf
              have hmo := makeV_okB hB2 n
              have e69 := f69 ⟨p5, sb5, wb5⟩ d 101 n hB2 (by omega) hk5 h
              have e70 := f70 ⟨p6, sb6, wb6⟩ d 101 n hB2 (by omega) hk6 h
              obtain ⟨⟨D, k2, x2⟩, hx⟩ : ∃ x, x = makeV d n := ⟨_, rfl⟩
              rw [← hx] at hmo e69 e70
              have hDo := hmo.ok (by omega)
              cases hso : k2.isSome
              all_goals
                repeat' (conv => whnf
                         first
                         | fail)
                conv => whnf
                with_reducible apply CallSt.loc (f := 69) (R := GotB ⟨p5, sb5, wb5⟩ (D, k2, x2))
                · with_reducible exact Gv.Loc.skip Gv.Loc.hd
                · exact e69
                rintro _ _ hg
                obtain ⟨⟨p9, sb9, wb9⟩, G9, q9, hp9, hk9, rfl, rfl⟩ := hg.sp
                obtain rfl : p5 = p9 := hp9.symm
                dsimp only
                rw [hso]
                repeat' (conv => whnf
                         first
                         | (with_reducible refine NextSt.mk ?_))
                conv => whnf
                with_reducible apply CallSt.loc (f := 70) (R := GotE ⟨p6, sb6, wb6⟩ (D, k2, x2))
                · with_reducible exact Gv.Loc.hd
                · exact e70
                rintro _ _ hg2
                obtain ⟨⟨p10, sb10, wb10⟩, G10, q10, hp10, hk10, rfl, rfl⟩ := hg2.sp
                obtain rfl : p6 = p10 := hp10.symm
                dsimp only
                rw [hso]
                repeat' (conv => whnf
                         first
                         | ((with_reducible refine CallSt.rd (f := 69) (X := .tuple ⟨[.pointer none, .int .i64 1]⟩) ?_ ?_); (· exact f69n _ _))
                         | ((with_reducible refine CallSt.rd (f := 65) (X := .tuple ⟨[.pointer none, .int .i64 1]⟩) ?_ ?_); (· exact f65n _ _))
                         | (((with_reducible apply Cmp.yes); · rfl))
                         | (((with_reducible apply OnBB.yes); · rfl))
                         | (((with_reducible refine CallSt.rd (f := 51) (X := .bool true) ?_ ?_); (· apply f51 ⟨p5, sb9, wb9⟩ ⟨p6, sb10, wb10⟩ D; (· with_reducible exact Gv.Loc.skip (Gv.Loc.left Gv.Loc.hd)); (· with_reducible exact Gv.Loc.left Gv.Loc.hd); (· exact hDo); (· exact hk9); (· exact hk10))))
                         | (with_reducible refine NextSt.mk ?_))
                conv => whnf
                refine FinSt.ret ?_ rfl
                repeat (first | exact List.Sublist.refl _ | apply List.Sublist.cons | exact (List.Sublist.refl O).trans (List.sublist_append_right _ _) | apply sub_skip)
            | some K =>
              obtain ⟨rfl, hup, hOS, hK1⟩ := openV_some hB2 ho
              have hw := hOS.wf
              apply CallSt.newP (R := OpenR p5 (some K, 0))
              · apply GSpec.locNew (H := dHp ⟨p5, sb5, wb5⟩ d)
                · (repeat (first | with_reducible exact Loc.hd | with_reducible exact Loc.last | with_reducible exact Loc.one | with_reducible apply Loc.tl | with_reducible apply Loc.skip))
                · exact e65
              rintro _ _ ⟨⟨q1, lp1, ls1⟩, hb1, rfl, rfl⟩
              refine ⟨_, perm_in _ _ _ _, ?_⟩
              have hbk1 : bOk ⟨p5, sb5, wb5⟩ d ⟨q1, lp1, ls1⟩ K := ⟨hk5, hb1.logs, hb1.ls⟩
              repeat' (conv => whnf
                       first
                       | (with_reducible refine NextSt.mk ?_))
              conv => whnf
              apply CallSt.newP (R := OpenE p6 (some K, 0))
              · apply GSpec.locNew (H := eHp ⟨p6, sb6, wb6⟩ d)
                · (repeat (first | with_reducible exact Loc.hd | with_reducible exact Loc.last | with_reducible exact Loc.one | with_reducible apply Loc.tl | with_reducible apply Loc.skip))
                · exact e66
              rintro _ _ ⟨⟨q2, lp2, ls2⟩, hb2, rfl, rfl⟩
              refine ⟨_, perm_on _ _ _, ?_⟩
              have hbk2 : bOk ⟨p6, sb6, wb6⟩ d ⟨q2, lp2, ls2⟩ K := ⟨hk6, hb2.logs, hb2.ls⟩
              repeat' (conv => whnf
                       first
                       | (((with_reducible apply Cmp.no); · exact fun h => h rfl))
                       | (((with_reducible apply OnBB.yes); · rfl))
                       | (((with_reducible apply OnBB.no); · rfl))
                       | (((with_reducible refine CallSt.rd (f := 51) (X := .bool true) ?_ ?_); (· apply f51 ⟨p5, sb5, wb5⟩ ⟨p6, sb6, wb6⟩ d; (· with_reducible exact Gv.Loc.skip (Gv.Loc.left Gv.Loc.hd)); (· with_reducible exact Gv.Loc.left Gv.Loc.hd); (· exact hdo2); (· exact hk5); (· exact hk6))))
                       | (with_reducible refine NextSt.mk ?_))
              conv => whnf
              refine CallSt.rd (f := 67) (X := .bool true) ?_ ?_
              · apply f67z ⟨p5, sb5, wb5⟩ ⟨p6, sb6, wb6⟩ ⟨q1, lp1, ls1⟩ ⟨q2, lp2, ls2⟩ (d, K) (d, K)
                · with_reducible exact Gv.Loc.skip Gv.Loc.hd
                · with_reducible exact Gv.Loc.hd
                · exact hw
                · rfl
                · exact hK1
                · exact hbk1
                · exact hbk2
              conv => whnf
              refine OnBB.tt ?_
              conv => whnf
              refine NextSt.mk ?_
              refine (show codeK _ (Code.cond (Operand.tmp 132) _ _) _ _ _ _ from ?_)
              refine condStep (v := Value.bool false) ?_ ?_
              · rfl
              conv => whnf
              refine OnBB.ff ?_
              repeat' (conv => whnf
                       first
                       | ((with_reducible apply LoadSt.boxAgg); · (repeat (first | exact List.Mem.head _ | with_reducible apply List.mem_append_right | with_reducible apply List.mem_cons_of_mem))))
              conv => whnf
              apply CallSt.new (e53 _)
              rintro _ _ ⟨A, rfl, rfl, hA⟩
              obtain ⟨⟨T, m, x⟩, hT⟩ : ∃ x, x = takeV (d, K) g := ⟨_, rfl⟩
              have hTo := takeV_ok hOS g
              have e68 := fun G hr => f68 ⟨p6, sb6, wb6⟩ ⟨q2, lp2, ls2⟩ (d, K) 101 g A.a A.cap G hpw (by omega) hOS (by decide) hup hbk2 h hr
              have hTl := takeV_len (d, K) g
              rw [← hT] at hTo e68 hTl
              dsimp only at hTo hTl e68
              repeat' (conv => whnf
                       first
                       | (with_reducible refine NextSt.mk ?_))
              conv => whnf
              with_reducible apply CallSt.locG (f := 55) (H := bH ⟨p5, sb5, wb5⟩ d ⟨q1, lp1, ls1⟩ K) (G := A.hp 70 (g.flatMap enV)) (R := BR ⟨p5, sb5, wb5⟩ ⟨q1, lp1, ls1⟩ T (.tuple ⟨[iN m, .int .i64 x]⟩))
              · (repeat (first | with_reducible exact Loc.hd | with_reducible exact Loc.last | with_reducible exact Loc.one | with_reducible apply Loc.tl | with_reducible apply Loc.skip))
              · (repeat (first | with_reducible exact Loc.hd | with_reducible exact Loc.last | with_reducible exact Loc.one | with_reducible apply Loc.tl | with_reducible apply Loc.skip))
              · exact f55L ⟨p5, sb5, wb5⟩ ⟨q1, lp1, ls1⟩ (d, K) T 101 m x g A.a A.cap _ hpw (by omega) hOS (by decide) hbk1 hT.symm _ (Buf.rd hA)
              rintro _ _ ⟨⟨p7, sb7, wb7⟩, ⟨q7, lp7, ls7⟩, hp7, hq7, hk7, rfl, rfl⟩
              obtain rfl : p5 = p7 := hp7.symm
              obtain rfl : q1 = q7 := hq7.symm
              repeat' (conv => whnf
                       first
                       | (with_reducible refine NextSt.mk ?_))
              conv => whnf
              with_reducible apply CallSt.locG (f := 68) (H := eH ⟨p6, sb6, wb6⟩ d ⟨q2, lp2, ls2⟩ K) (G := A.hp 70 (g.flatMap enV)) (R := BE ⟨p6, sb6, wb6⟩ ⟨q2, lp2, ls2⟩ T (.tuple ⟨[iN m, .int .i64 x]⟩))
              · (repeat (first | with_reducible exact Loc.hd | with_reducible exact Loc.last | with_reducible exact Loc.one | with_reducible apply Loc.tl | with_reducible apply Loc.skip))
              · (repeat (first | with_reducible exact Loc.hd | with_reducible exact Loc.last | with_reducible exact Loc.one | with_reducible apply Loc.tl | with_reducible apply Loc.skip))
              · exact (e68 _ (Buf.rd hA)).mono fun v h' O' ⟨r', b', h1, h2, h3, h4, h5⟩ => ⟨eH r' T.1 b' T.2, h4, r', b', h1, h2, h3, rfl, h5⟩
              rintro _ _ ⟨⟨p8, sb8, wb8⟩, ⟨q8, lp8, ls8⟩, hp8, hq8, hk8, rfl, rfl⟩
              obtain rfl : p6 = p8 := hp8.symm
              obtain rfl : q2 = q8 := hq8.symm
              have hTd := hTo.d.ok (by omega)
              repeat' (conv => whnf
                       first
                       | (((with_reducible apply Cmp.no); · exact fun h => h rfl))
                       | (((with_reducible refine CallSt.rd (f := 67) (X := .bool true) ?_ ?_); (· apply f67z ⟨p5, sb7, wb7⟩ ⟨p6, sb8, wb8⟩ ⟨q1, lp7, ls7⟩ ⟨q2, lp8, ls8⟩ T T; (· with_reducible exact Gv.Loc.skip (Gv.Loc.skip Gv.Loc.hd)); (· with_reducible exact Gv.Loc.skip Gv.Loc.hd); (· exact hTo.wf); (· rfl); (· rw [hTl]; exact hK1); (· exact hk7); (· exact hk8))))
                       | (((with_reducible apply OnBB.yes); · rfl))
                       | (((with_reducible apply OnBB.no); · rfl))
                       | (((with_reducible refine CallSt.rd (f := 51) (X := .bool true) ?_ ?_); (· apply f51 ⟨p5, sb7, wb7⟩ ⟨p6, sb8, wb8⟩ T.1; (· with_reducible exact Gv.Loc.skip (Gv.Loc.skip (Gv.Loc.left Gv.Loc.hd))); (· with_reducible exact Gv.Loc.skip (Gv.Loc.left Gv.Loc.hd)); (· exact hTd); (· exact hk7.d); (· exact hk8.d))))
                       | (with_reducible refine NextSt.mk ?_))
              conv => whnf
              have hmo := makeV_okB hTo.d n
              have e69 := f69 ⟨p5, sb7, wb7⟩ T.1 (101 + 10560) n hTo.d (by omega) hk7.d h
              have e70 := f70 ⟨p6, sb8, wb8⟩ T.1 (101 + 10560) n hTo.d (by omega) hk8.d h
              obtain ⟨⟨D, k2, x2⟩, hx⟩ : ∃ x, x = makeV T.1 n := ⟨_, rfl⟩
              rw [← hx] at hmo e69 e70
              have hDo := hmo.ok (by omega)
              cases hso : k2.isSome
              all_goals
                repeat' (conv => whnf
                         first
                         | fail)
                conv => whnf
                with_reducible apply CallSt.loc (f := 69) (R := GotB ⟨p5, sb7, wb7⟩ (D, k2, x2))
                · with_reducible exact Gv.Loc.skip (Gv.Loc.skip (Gv.Loc.left Gv.Loc.hd))
                · exact e69
                rintro _ _ hg
                obtain ⟨⟨p9, sb9, wb9⟩, G9, q9, hp9, hk9, rfl, rfl⟩ := hg.sp
                obtain rfl : p5 = p9 := hp9.symm
                dsimp only
                rw [hso]
                repeat' (conv => whnf
                         first
                         | (with_reducible refine NextSt.mk ?_))
                conv => whnf
                with_reducible apply CallSt.loc (f := 70) (R := GotE ⟨p6, sb8, wb8⟩ (D, k2, x2))
                · with_reducible exact Gv.Loc.skip (Gv.Loc.left Gv.Loc.hd)
                · exact e70
                rintro _ _ hg2
                obtain ⟨⟨p10, sb10, wb10⟩, G10, q10, hp10, hk10, rfl, rfl⟩ := hg2.sp
                obtain rfl : p6 = p10 := hp10.symm
                dsimp only
                rw [hso]
                repeat' (conv => whnf
                         first
                         | ((with_reducible refine CallSt.rd (f := 69) (X := .tuple ⟨[.pointer none, .int .i64 1]⟩) ?_ ?_); (· exact f69n _ _))
                         | ((with_reducible refine CallSt.rd (f := 65) (X := .tuple ⟨[.pointer none, .int .i64 1]⟩) ?_ ?_); (· exact f65n _ _))
                         | (((with_reducible apply Cmp.yes); · rfl))
                         | (((with_reducible apply OnBB.yes); · rfl))
                         | (((with_reducible refine CallSt.rd (f := 51) (X := .bool true) ?_ ?_); (· apply f51 ⟨p5, sb9, wb9⟩ ⟨p6, sb10, wb10⟩ D; (· with_reducible exact Gv.Loc.skip (Gv.Loc.skip (Gv.Loc.left (Gv.Loc.left Gv.Loc.hd)))); (· with_reducible exact Gv.Loc.skip (Gv.Loc.left (Gv.Loc.left Gv.Loc.hd))); (· exact hDo); (· exact hk9); (· exact hk10))))
                         | (with_reducible refine NextSt.mk ?_))
                conv => whnf
                refine FinSt.ret ?_ rfl
                repeat (first | exact List.Sublist.refl _ | apply List.Sublist.cons | exact (List.Sublist.refl O).trans (List.sublist_append_right _ _) | apply sub_skip)
      · refine GSpec.enter (fn := Try.f12) Try.func12 rfl (by kernel_rfl) ?_
        repeat' (conv => whnf
                 first
                 | ((with_reducible refine CallSt.rd (f := 17) (X := .bool true) ?_ ?_); (· exact f17 _ _))
                 | ((with_reducible refine CallSt.rd (f := 52) (X := .bool true) ?_ ?_); (· exact e52 _))
                 | (with_reducible refine NextSt.mk ?_)
                 | (with_reducible refine OnBB.tt ?_)
                 | (with_reducible refine OnBB.ff ?_)
                 | ((with_reducible apply Cmp.yes); · first | omega | (with_reducible assumption) | (with_reducible rfl))
                 | ((with_reducible apply Cmp.no); · first | omega | (with_reducible assumption))
                 | ((with_reducible apply LoadSt.boxAgg); · (repeat (first | exact List.Mem.head _ | with_reducible apply List.mem_append_right | with_reducible apply List.mem_cons_of_mem)))
                 | ((with_reducible refine AllocSt.mk ?_); intro _b _hb _hbO))
        all_goals (conv => whnf)
        all_goals refine FinSt.ret (by (try dsimp only); (try simp only [List.cons_append, List.nil_append]); (repeat (first | with_reducible exact List.Sublist.refl _ | with_reducible exact List.nil_sublist _ | with_reducible apply List.Sublist.cons_cons | with_reducible apply sub_app | apply List.Sublist.cons_cons | apply sub_app | with_reducible apply List.Sublist.cons | with_reducible apply sub_skip))) ?_
        all_goals rfl
    · refine GSpec.enter (fn := Try.f12) Try.func12 rfl (by kernel_rfl) ?_
      repeat' (conv => whnf
               first
               | ((with_reducible refine CallSt.rd (f := 17) (X := .bool true) ?_ ?_); (· exact f17 _ _))
               | ((with_reducible refine CallSt.rd (f := 52) (X := .bool true) ?_ ?_); (· exact e52 _))
               | (with_reducible refine NextSt.mk ?_)
               | (with_reducible refine OnBB.tt ?_)
               | (with_reducible refine OnBB.ff ?_)
               | ((with_reducible apply Cmp.yes); · first | omega | (with_reducible assumption) | (with_reducible rfl))
               | ((with_reducible apply LoadSt.boxAgg); · (repeat (first | exact List.Mem.head _ | with_reducible apply List.mem_append_right | with_reducible apply List.mem_cons_of_mem)))
               | ((with_reducible refine AllocSt.mk ?_); intro _b _hb _hbO))
      all_goals (conv => whnf)
      all_goals refine FinSt.ret (by (try dsimp only); (try simp only [List.cons_append, List.nil_append]); (repeat (first | with_reducible exact List.Sublist.refl _ | with_reducible exact List.nil_sublist _ | with_reducible apply List.Sublist.cons_cons | with_reducible apply sub_app | apply List.Sublist.cons_cons | apply sub_app | with_reducible apply List.Sublist.cons | with_reducible apply sub_skip))) ?_
      all_goals rfl
  · rw [decide_eq_false hf] at e52
    refine GSpec.enter (fn := Try.f12) Try.func12 rfl (by kernel_rfl) ?_
    repeat' (conv => whnf
             first
             | ((with_reducible refine CallSt.rd (f := 17) (X := .bool true) ?_ ?_); (· exact f17 _ _))
             | ((with_reducible refine CallSt.rd (f := 52) (X := .bool false) ?_ ?_); (· exact e52 _))
             | (with_reducible refine NextSt.mk ?_)
             | (with_reducible refine OnBB.tt ?_)
             | (with_reducible refine OnBB.ff ?_)
             | ((with_reducible apply LoadSt.boxAgg); · (repeat (first | exact List.Mem.head _ | with_reducible apply List.mem_append_right | with_reducible apply List.mem_cons_of_mem)))
             | ((with_reducible refine AllocSt.mk ?_); intro _b _hb _hbO))
    all_goals (conv => whnf)
    all_goals refine FinSt.ret (by (try dsimp only); (try simp only [List.cons_append, List.nil_append]); (repeat (first | with_reducible exact List.Sublist.refl _ | with_reducible exact List.nil_sublist _ | with_reducible apply List.Sublist.cons_cons | with_reducible apply sub_app | apply List.Sublist.cons_cons | apply sub_app | with_reducible apply List.Sublist.cons | with_reducible apply sub_skip))) ?_
    all_goals rfl
end Go.Proofs.Ytlbmlimaobkhpaa
