/- The laws' functions over books: what is wanted. -/
import Derived.Test.YtlbmlimaobkhpaaOa
set_option linter.unusedVariables false
set_option linter.unusedSimpArgs false
set_option linter.unusedSectionVars false
/- What a book wants of another: the program's. -/
namespace Go.Proofs.Ytlbmlimaobkhpaa
open Go Go.Gv
set_option maxRecDepth 100000
set_option maxHeartbeats 4000000
set_option linter.unusedSimpArgs false
set_option linter.unusedVariables false
theorem f116 (n : Int) (hn : 0 ≤ n) (h : View) (O : Hp) : GSpec Try.prog 116 [.int .i64 n] h O (Ret O (.bool false)) := by
  refine GSpec.enter (fn := Try.f116) Try.func116 rfl (by kernel_rfl) ?_
  repeat' (conv => whnf
           first
           | (with_reducible refine NextSt.mk ?_)
           | ((with_reducible apply Cmp.no); · omega))
  conv => whnf
  refine FinSt.ret (by (try dsimp only); (try simp only [List.cons_append, List.nil_append]); (repeat (with_reducible exact List.Sublist.refl _))) ?_
  rfl
theorem f156 (l : List Int) (a : Option Addr) (c : Nat) (hl : l.length ≤ 9223372036854775807) (hp : ∀ n ∈ l, 0 ≤ n) (h : View) (O : Hp) (hr : Rd h O a (l.map zV)) :
    GSpec Try.prog 156 [.slice a l.length c, .func (.func 116) #[] #[]] h O (Ret O (.int .i64 (-1))) := by
  refine GSpec.enter (fn := Try.f156) Try.func156 rfl (by kernel_rfl) ?_
  repeat' (conv => whnf
           first
           | (with_reducible refine NextSt.mk ?_))
  refine LoopSt.fix [4, 5, 8, 9, 10, 11, 12, 13, 14, 15, 16, 17, 18] (fun (k : Nat) => [(8, iN k)]) (fun _ => _) (fun k => k ≤ l.length) (fun k => l.length - k) (0) _ (Wk.refl _ _) (rfl) ?_ ?_ ?_
  · repeat' (first | exact True.intro | refine And.intro ?_ ?_ | rfl)
  · exact Nat.zero_le _
  · intro k d2 hk
    by_cases hkl : k < l.length
    · have hpk := hp _ (getD_mem (d := default) hkl)
      repeat' (conv => whnf
               first
               | (((with_reducible apply LoadSt.rdm (g := zV)); (· exact hr); (· omega)); unfold zV)
               | (((with_reducible refine CallSt.rd (f := 116) (X := .bool false) ?_ ?_); (· exact f116 _ hpk _ _)))
               | (with_reducible refine NextSt.mk ?_)
               | (with_reducible refine OnBB.tt ?_)
               | (with_reducible refine OnBB.ff ?_)
               | ((with_reducible apply NW.addN); (· with_reducible rfl); (· exact natL _); (· omega))
               | ((with_reducible apply Cmp.yes); · omega)
               | ((with_reducible apply IdxSl.rd1); (· with_reducible assumption); (· rfl); (· with_reducible rfl); (· (omega)); · ((simp only [List.length_map, List.length_append, List.length_cons, List.length_nil, List.length_take, List.length_drop, List.length_replicate, List.length_set] at *; omega))))
      refine RoundFix.mk (k + 1) ?_ ?_ _ rfl (Wk.drop (by (try dsimp only); (try simp only [List.cons_append, List.nil_append]); (repeat (with_reducible exact List.Sublist.refl _)))) ?_
      · omega
      · repeat' (first | exact True.intro | refine And.intro ?_ ?_ | rfl)
      · omega
    · repeat' (conv => whnf
               first
               | (with_reducible refine NextSt.mk ?_)
               | (with_reducible refine OnBB.ff ?_)
               | ((with_reducible apply Cmp.no); · omega))
      conv => whnf
      refine FinSt.ret (by (try dsimp only); (try simp only [List.cons_append, List.nil_append]); (repeat (with_reducible exact List.Sublist.refl _))) ?_
      rfl
theorem f115 (l : List Int) (a : Option Addr) (c : Nat) (hl : l.length ≤ 9223372036854775807) (hp : ∀ n ∈ l, 0 ≤ n) (h : View) (O : Hp) (hr : Rd h O a (l.map zV)) :
    GSpec Try.prog 115 [.slice a l.length c, .func (.func 116) #[] #[]] h O (Ret O (.bool false)) := by
  refine GSpec.enter (fn := Try.f115) Try.func115 rfl (by kernel_rfl) ?_
  repeat' (conv => whnf
           first
           | (((with_reducible refine CallSt.rd (f := 156) (X := .int .i64 (-1)) ?_ ?_); (· exact f156 l a c hl hp _ _ hr)))
           | (with_reducible refine NextSt.mk ?_)
           | ((with_reducible apply Cmp.no); · omega))
  conv => whnf
  refine FinSt.ret (by (try dsimp only); (try simp only [List.cons_append, List.nil_append]); (repeat (with_reducible exact List.Sublist.refl _))) ?_
  rfl
end Go.Proofs.Ytlbmlimaobkhpaa
/- What a book wants of another: the program's. -/
namespace Go.Proofs.Ytlbmlimaobkhpaa
open Go Go.Gv
set_option maxRecDepth 100000
set_option maxHeartbeats 4000000
set_option linter.unusedSimpArgs false
set_option linter.unusedVariables false
/-- How much of a log the other has. -/
def wantN (q : List En) (n : Int) (u : Nat) : Nat := if (q.length : Int) < n ∨ sumL (q.take n.toNat) ≠ u then 0 else n.toNat
def wantI (logs : List (List En)) (ns : List Int) (us : List Nat) : Nat → List En
  | 0 => []
  | k + 1 => wantI logs ns us k ++ (logs.getD k []).drop (wantN (logs.getD k []) (ns.getD k default) (us.getD k default))
theorem fl_drop : ∀ (w : Nat) (q : List En), (q.flatMap enV).drop (w * 3) = (q.drop w).flatMap enV
  | 0, q => by rw [Nat.zero_mul]; rfl
  | w + 1, [] => by simp
  | w + 1, e :: q => by
    rw [Nat.add_mul, Nat.one_mul, List.drop_succ_cons, ← fl_drop w q]
    rfl
theorem fl_take : ∀ (w : Nat) (q : List En), (q.flatMap enV).take (w * 3) = (q.take w).flatMap enV
  | 0, q => by rw [Nat.zero_mul]; rfl
  | w + 1, [] => by simp
  | w + 1, e :: q => by
    rw [Nat.add_mul, Nat.one_mul, List.take_succ_cons]
    show List.take (w * 3 + 3) (enV e ++ q.flatMap enV) = enV e ++ (q.take w).flatMap enV
    rw [← fl_take w q]
    rfl
theorem wantI_len {logs : List (List En)} {ns : List Int} {us : List Nat} (h : ∀ p < logs.length, (logs.getD p []).length ≤ 64) : ∀ k, k ≤ logs.length → (wantI logs ns us k).length ≤ 64 * k
  | 0, _ => Nat.le_refl _
  | k + 1, hk => by
    have h1 := wantI_len (ns := ns) (us := us) h k (by omega)
    have h2 := h k (by omega)
    rw [wantI, List.length_append, List.length_drop]; omega
theorem none_drop {B : Buf} {q : List En} {w : Nat} (hb : B.ok 3 (q.flatMap enV) q.length) : (if B.cap = w then B.a else B.a.map (·.add (w * 3))) = none → q.length - w = 0 := by
  have hc := Buf.le hb
  split
  · intro _; omega
  · intro h
    cases ha : B.a with
    | none => have := Buf.none_len hb ha; omega
    | some x => rw [ha] at h; cases h
theorem f58 (r : Dr) (b : Br) (S : DB) (t : Ty) (G : Hp) (hw : wfL S.2.logs) (hk : bOk r S.1 b S.2) (ht1 : t.ns.length = S.2.logs.length) (ht2 : t.us.length = S.2.logs.length) (hp : ∀ n ∈ t.ns, 0 ≤ n) (h : View) (ht : tyR h (bH r S.1 b S.2 ++ G) t) :
    GSpec Try.prog 58 [pP b.p, .agg ⟨tyV t⟩] h (bH r S.1 b S.2 ++ G) (New (bH r S.1 b S.2 ++ G) fun v H => ∃ A : Buf, v = .tuple ⟨[.slice A.a (wantI S.2.logs t.ns t.us S.2.logs.length).length A.cap, .int .i64 0]⟩ ∧ H = A.hp 70 ((wantI S.2.logs t.ns t.us S.2.logs.length).flatMap enV) ∧ A.ok 3 ((wantI S.2.logs t.ns t.us S.2.logs.length).flatMap enV) (wantI S.2.logs t.ns t.us S.2.logs.length).length) := by
  have hlg := hk.logs
  have hlen := logs_len b
  have hwb : wfL b.logs := by rw [hlg]; exact hw
  have hb8 := hwb.len
  rw [← hlg] at ht1 ht2 ⊢
  obtain ⟨a1, c1, ns, a2, c2, us⟩ := t
  obtain ⟨hn, hu, hn1, hu1⟩ := ht
  simp only at ht1 ht2 hp hn hu hn1 hu1 ⊢
  have eO : bH r S.1 b S.2 ++ G = dHp r S.1 ++ (bkc b.p (bkV b) r.p S.2.at_ S.2.falls :: lgc b :: (lgHp b.ls ++ G)) := by simp only [bH, List.append_assoc, List.cons_append]
  rw [eO] at hn hu ⊢
  show GSpec Try.prog 58 [_, .agg ⟨[.slice a1 ns.length c1, .slice a2 us.length c2]⟩] h _ _
  refine GSpec.enter (fn := Try.f58) Try.func58 rfl (by kernel_rfl) ?_
  repeat' (conv => whnf
           first
           | (((with_reducible refine CallG.rd (f := 115) (X := .bool false) ?_ ?_); (· exact f115 ns a1 c1 hn1 hp _ _ (Rd.cons hn))))
           | ((with_reducible refine DrawSt.walk [0, 1, 2, 3, 4, 5, 6, 7, 8, 9, 10, 11, 12, 13, 14, 15, 16, 17, 18, 19, 20, 21, 22, 23, 24] mixed ?_ ?_); · decide +kernel)
           | (with_reducible refine NextSt.mk ?_)
           | (with_reducible refine OnBB.ff ?_)
           | ((with_reducible apply Cmp.no); · omega)
           | ((with_reducible apply LoadSt.box); · (repeat (first | exact List.Mem.head _ | with_reducible apply List.mem_append_right | with_reducible apply List.mem_cons_of_mem)))
           | ((with_reducible refine AllocSt.mk ?_); intro _b _hb _hbO))
  refine LoopSt.fix [6, 7, 8, 9, 40, 41, 42, 43, 44, 45, 46, 47, 48, 49, 50, 51, 52, 53, 54, 55, 56, 57, 58, 59, 60, 61, 62, 63, 64, 65, 66, 67, 68, 69, 70, 71] (fun ((k, A) : Nat × Buf) => [(6, .slice A.a (wantI b.logs ns us k).length A.cap), (40, iN k)]) (fun (k, A) => A.hp 70 ((wantI b.logs ns us k).flatMap enV) ++ ((_b, .cells ⟨[.slice a1 ns.length c1, .slice a2 us.length c2]⟩ 81 (0, 0)) :: (dHp r S.1 ++ (bkc b.p (bkV b) r.p S.2.at_ S.2.falls :: lgc b :: (lgHp b.ls ++ G))))) (fun (k, A) => k ≤ b.ls.length ∧ A.ok 3 ((wantI b.logs ns us k).flatMap enV) (wantI b.logs ns us k).length) (fun (k, A) => b.ls.length - k) ((0, Buf.nil)) _ (Wk.refl _ _) (rfl) ?_ ?_ ?_
  · repeat' (first | exact True.intro | refine And.intro ?_ ?_ | rfl)
  · exact ⟨Nat.zero_le _, Buf.nil_ok 3⟩
  · rintro ⟨k, A⟩ d2 ⟨hk2, hA⟩
    dsimp only at hk2 hA ⊢
    by_cases hkl : k < b.ls.length
    · have hlk := logs_get hkl
      have hkl2 : k < b.logs.length := by omega
      have hl64 := hwb.log k hkl2
      have henk := hwb.en k hkl2
      rw [hlk] at hl64 henk
      have hen : ∀ e ∈ (b.ls.getD k default).2, enOk e := fun e he => by
        obtain ⟨i, hi, rfl⟩ := List.getElem_of_mem he
        have := (henk i hi).1
        rwa [List.getD_eq_getElem?_getD, List.getElem?_eq_getElem hi] at this
      have hrd := lgHp_rd (w := h) hk.ls hkl
      have hwl := wantI_len (ns := ns) (us := us) hwb.log k (by omega)
      have hqb := hk.ls.get hkl
      have hqc := Buf.le hqb
      have hpn := hp _ (getD_mem (d := default) (show k < ns.length by omega))
      have hst : wantI b.logs ns us (k + 1) = wantI b.logs ns us k ++ (b.ls.getD k default).2.drop (wantN (b.ls.getD k default).2 (ns.getD k default) (us.getD k default)) := by rw [← hlk]; rfl
      obtain ⟨n, hn3⟩ := nat_of hpn
      rw [hn3] at hst
      by_cases hc1 : (b.ls.getD k default).2.length < n
      · rw [show wantN (b.ls.getD k default).2 n (us.getD k default) = 0 from if_pos (.inl (by omega)), List.drop_zero] at hst
        repeat' (conv => whnf
                 first
                 | (((with_reducible apply LoadSt.ownd (g := slV)); (· (repeat (first | exact List.Mem.head _ | with_reducible apply List.mem_append_right | with_reducible apply List.mem_cons_of_mem))); (· (exact Nat.zero_add _)); (· (omega))); unfold slV)
                 | (((with_reducible apply LoadSt.rdm (g := zV)); (· exact Rd.appR (Rd.cons hn)); (· omega)); rw [hn3]; unfold zV)
                 | (((with_reducible apply SlSl.lo (l := 0)); (· rfl); (· omega); (· omega)))
                 | ((refine AppSt.rowm (g := enV) (ys := (b.ls.getD k default).2.drop 0) (s := 3) (z := .agg ⟨[.int .i64 0, .int .i64 0, .string ⟨⟨[]⟩⟩]⟩) Gv.Loc.hd hA (by rw [← fl_drop]; exact Rd.slice (Rd.appR (Rd.cons (Rd.appR (Rd.cons (Rd.cons (Rd.appL hrd)))))) 0 _ 3 (fun e => by have := hqb.1; omega)) (by rw [List.length_drop]) (none_drop hqb) (fun _ => rfl) (fun _ => rfl) rfl rfl rfl rfl (by show _ * 32 ≤ _; omega) (by omega) ?_); intro A' hA')
                 | ((with_reducible refine DrawSt.walk [0, 1, 2, 3, 4, 5, 6, 7, 9, 10, 11, 12, 13, 8, 14, 15] mixed ?_ ?_); · decide +kernel)
                 | (with_reducible refine NextSt.mk ?_)
                 | (with_reducible refine OnBB.tt ?_)
                 | ((with_reducible apply NW.addN); (· with_reducible rfl); (· exact natL _); (· omega))
                 | ((with_reducible apply Cmp.yes); · omega)
                 | ((with_reducible apply LoadSt.box); · (repeat (first | exact List.Mem.head _ | with_reducible apply List.mem_append_right)))
                 | ((with_reducible apply IdxSl.own1); (· rfl); (· with_reducible rfl); · (omega))
                 | ((with_reducible apply IdxSl.rd1); (· with_reducible assumption); (· rfl); (· with_reducible rfl); (· (omega)); · ((simp only [List.length_map, List.length_append, List.length_cons, List.length_nil, List.length_take, List.length_drop, List.length_replicate, List.length_set] at *; omega))))
        rw [List.drop_zero, ← hst] at hA' ⊢
        have hl2 : (wantI b.logs ns us (k + 1)).length = (wantI b.logs ns us k).length + ((b.ls.getD k default).2.length - 0) := by rw [hst, List.length_append, Nat.sub_zero]
        rw [← hl2] at hA'
        refine RoundFix.mk ((k + 1, A')) ?_ ?_ _ rfl (Wk.drop (by (try dsimp only); (try simp only [List.cons_append, List.nil_append]); (repeat (with_reducible exact List.Sublist.refl _)))) ?_
        · dsimp only; omega
        · repeat' (first | exact True.intro | refine And.intro ?_ ?_ | exact congrArg (fun n => Value.slice A'.a n A'.cap) hl2.symm | rfl)
        · exact ⟨by omega, hA'⟩
      · have hlt : ((b.ls.getD k default).2.take n).length = n := by rw [List.length_take]; omega
        have e117 : ∀ h O, Rd h O (b.ls.getD k default).1.a ((b.ls.getD k default).2.flatMap enV) → GSpec Try.prog 117 [.slice (b.ls.getD k default).1.a n (b.ls.getD k default).1.cap] h O (Ret O (uN (sumL ((b.ls.getD k default).2.take n)))) := fun h O hr => by
          have := f117 ((b.ls.getD k default).2.take n) (b.ls.getD k default).1.a (b.ls.getD k default).1.cap (by omega) (fun e he => hen e (List.mem_of_mem_take he)) h O (by rw [← fl_take]; exact hr.take _)
          rwa [hlt] at this
        by_cases hs : sumL ((b.ls.getD k default).2.take n) = us.getD k default
        · rw [show wantN (b.ls.getD k default).2 n (us.getD k default) = n from by unfold wantN; rw [Int.toNat_natCast, if_neg (fun h1 => h1.elim (fun h1 => by omega) fun h1 => h1 hs)]] at hst
          repeat' (conv => whnf
                   first
                   | (((with_reducible apply LoadSt.ownd (g := slV)); (· (repeat (first | exact List.Mem.head _ | with_reducible apply List.mem_append_right | with_reducible apply List.mem_cons_of_mem))); (· (exact Nat.zero_add _)); (· (omega))); unfold slV)
                   | (((with_reducible apply LoadSt.rdm (g := zV)); (· exact Rd.appR (Rd.cons hn)); (· omega)); rw [hn3]; unfold zV)
                   | (((with_reducible apply LoadSt.rdm (g := uN)); (· exact Rd.appR (Rd.cons hu)); (· omega)); unfold uN)
                   | (((with_reducible refine CallG.rd (f := 117) (X := uN (sumL ((b.ls.getD k default).2.take n))) ?_ ?_); (· exact e117 _ _ (Rd.appR (Rd.cons (Rd.appR (Rd.cons (Rd.cons (Rd.appL hrd)))))))))
                   | ((rw [hs]); ((with_reducible apply Cmp.no); · exact fun h => h rfl))
                   | (((with_reducible apply SlSl.lo (l := n)); (· rfl); (· omega); (· omega)))
                   | ((refine AppSt.rowm (g := enV) (ys := (b.ls.getD k default).2.drop n) (s := 3) (z := .agg ⟨[.int .i64 0, .int .i64 0, .string ⟨⟨[]⟩⟩]⟩) Gv.Loc.hd hA (by rw [← fl_drop]; exact Rd.slice (Rd.appR (Rd.cons (Rd.appR (Rd.cons (Rd.cons (Rd.appL hrd)))))) n _ 3 (fun e => by have := hqb.1; omega)) (by rw [List.length_drop]) (none_drop hqb) (fun _ => rfl) (fun _ => rfl) rfl rfl rfl rfl (by show _ * 32 ≤ _; omega) (by omega) ?_); intro A' hA')
                   | ((with_reducible refine DrawSt.walk [0, 1, 2, 3, 4, 5, 6, 7, 9, 10, 11, 12, 13, 8, 14, 15] mixed ?_ ?_); · decide +kernel)
                   | (with_reducible refine NextSt.mk ?_)
                   | (with_reducible refine OnBB.tt ?_)
                   | (with_reducible refine OnBB.ff ?_)
                   | ((with_reducible apply NW.addN); (· with_reducible rfl); (· exact natL _); (· omega))
                   | ((with_reducible apply Cmp.yes); · omega)
                   | ((with_reducible apply Cmp.no); · omega)
                   | ((with_reducible apply LoadSt.box); · (repeat (first | exact List.Mem.head _ | with_reducible apply List.mem_append_right)))
                   | ((with_reducible apply IdxSl.own1); (· rfl); (· with_reducible rfl); · (omega))
                   | ((with_reducible apply IdxSl.rd1); (· with_reducible assumption); (· rfl); (· with_reducible rfl); (· (omega)); · ((simp only [List.length_map, List.length_append, List.length_cons, List.length_nil, List.length_take, List.length_drop, List.length_replicate, List.length_set] at *; omega)))
                   | ((with_reducible apply SlSl.hi); (· with_reducible rfl); (· (omega))))
          rw [← hst] at hA' ⊢
          have hl2 : (wantI b.logs ns us (k + 1)).length = (wantI b.logs ns us k).length + ((b.ls.getD k default).2.length - n) := by rw [hst, List.length_append, List.length_drop]
          rw [← hl2] at hA'
          refine RoundFix.mk ((k + 1, A')) ?_ ?_ _ rfl (Wk.drop (by (try dsimp only); (try simp only [List.cons_append, List.nil_append]); (repeat (with_reducible exact List.Sublist.refl _)))) ?_
          · dsimp only; omega
          · repeat' (first | exact True.intro | refine And.intro ?_ ?_ | exact congrArg (fun n => Value.slice A'.a n A'.cap) hl2.symm | rfl)
          · exact ⟨by omega, hA'⟩
        · rw [show wantN (b.ls.getD k default).2 n (us.getD k default) = 0 from if_pos (.inr (by rw [Int.toNat_natCast]; exact hs)), List.drop_zero] at hst
          repeat' (conv => whnf
                   first
                   | (((with_reducible apply LoadSt.ownd (g := slV)); (· (repeat (first | exact List.Mem.head _ | with_reducible apply List.mem_append_right | with_reducible apply List.mem_cons_of_mem))); (· (exact Nat.zero_add _)); (· (omega))); unfold slV)
                   | (((with_reducible apply LoadSt.rdm (g := zV)); (· exact Rd.appR (Rd.cons hn)); (· omega)); rw [hn3]; unfold zV)
                   | (((with_reducible apply LoadSt.rdm (g := uN)); (· exact Rd.appR (Rd.cons hu)); (· omega)); unfold uN)
                   | (((with_reducible refine CallG.rd (f := 117) (X := uN (sumL ((b.ls.getD k default).2.take n))) ?_ ?_); (· exact e117 _ _ (Rd.appR (Rd.cons (Rd.appR (Rd.cons (Rd.cons (Rd.appL hrd)))))))))
                   | (((with_reducible apply Cmp.yes); · (exact fun h => hs (by omega))))
                   | (((with_reducible apply SlSl.lo (l := 0)); (· rfl); (· omega); (· omega)))
                   | ((refine AppSt.rowm (g := enV) (ys := (b.ls.getD k default).2.drop 0) (s := 3) (z := .agg ⟨[.int .i64 0, .int .i64 0, .string ⟨⟨[]⟩⟩]⟩) Gv.Loc.hd hA (by rw [← fl_drop]; exact Rd.slice (Rd.appR (Rd.cons (Rd.appR (Rd.cons (Rd.cons (Rd.appL hrd)))))) 0 _ 3 (fun e => by have := hqb.1; omega)) (by rw [List.length_drop]) (none_drop hqb) (fun _ => rfl) (fun _ => rfl) rfl rfl rfl rfl (by show _ * 32 ≤ _; omega) (by omega) ?_); intro A' hA')
                   | ((with_reducible refine DrawSt.walk [0, 1, 2, 3, 4, 5, 6, 7, 9, 10, 11, 12, 13, 8, 14, 15] mixed ?_ ?_); · decide +kernel)
                   | (with_reducible refine NextSt.mk ?_)
                   | (with_reducible refine OnBB.tt ?_)
                   | (with_reducible refine OnBB.ff ?_)
                   | ((with_reducible apply NW.addN); (· with_reducible rfl); (· exact natL _); (· omega))
                   | ((with_reducible apply Cmp.yes); · omega)
                   | ((with_reducible apply Cmp.no); · omega)
                   | ((with_reducible apply LoadSt.box); · (repeat (first | exact List.Mem.head _ | with_reducible apply List.mem_append_right)))
                   | ((with_reducible apply IdxSl.own1); (· rfl); (· with_reducible rfl); · (omega))
                   | ((with_reducible apply IdxSl.rd1); (· with_reducible assumption); (· rfl); (· with_reducible rfl); (· (omega)); · ((simp only [List.length_map, List.length_append, List.length_cons, List.length_nil, List.length_take, List.length_drop, List.length_replicate, List.length_set] at *; omega)))
                   | ((with_reducible apply SlSl.hi); (· with_reducible rfl); (· (omega))))
          rw [List.drop_zero, ← hst] at hA' ⊢
          have hl2 : (wantI b.logs ns us (k + 1)).length = (wantI b.logs ns us k).length + ((b.ls.getD k default).2.length - 0) := by rw [hst, List.length_append, Nat.sub_zero]
          rw [← hl2] at hA'
          refine RoundFix.mk ((k + 1, A')) ?_ ?_ _ rfl (Wk.drop (by (try dsimp only); (try simp only [List.cons_append, List.nil_append]); (repeat (with_reducible exact List.Sublist.refl _)))) ?_
          · dsimp only; omega
          · repeat' (first | exact True.intro | refine And.intro ?_ ?_ | exact congrArg (fun n => Value.slice A'.a n A'.cap) hl2.symm | rfl)
          · exact ⟨by omega, hA'⟩
    · have : k = b.ls.length := by omega
      subst this
      rw [hlen] at *
      repeat' (conv => whnf
               first
               | (with_reducible refine NextSt.mk ?_)
               | (with_reducible refine OnBB.ff ?_)
               | ((with_reducible apply Cmp.no); · omega))
      refine FinSt.new (H := A.hp 70 ((wantI b.logs ns us b.ls.length).flatMap enV)) (by (try dsimp only); (try simp only [List.cons_append, List.nil_append]); (repeat (first | with_reducible exact List.Sublist.refl _ | with_reducible apply sub_app | with_reducible apply List.Sublist.cons))) ⟨A, rfl, rfl, hA⟩
end Go.Proofs.Ytlbmlimaobkhpaa
