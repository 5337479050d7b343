/- Functions of the reference: what books tell. -/
import Derived.Test.YtlbmlimaobkhpaaHb
import Derived.Test.YtlbmlimaobkhpaaOx
set_option linter.unusedVariables false
set_option linter.unusedSimpArgs false
set_option linter.unusedSectionVars false
/- The reference's books: what they tell. -/
namespace Go.Proofs.Ytlbmlimaobkhpaa
open Go Go.Gv
set_option maxRecDepth 100000
set_option maxHeartbeats 4000000
set_option linter.unusedSimpArgs false
set_option linter.unusedVariables false
theorem cat_le {ls : List Lg} (h : ∀ p < ls.length, (ls.getD p default).2.length ≤ 64) : ∀ k, k ≤ ls.length → (catL (ls.take k)).length ≤ 64 * k
  | 0, _ => Nat.zero_le _
  | k + 1, hk => by
    have h1 := cat_le h k (by omega)
    have h2 := h k (by omega)
    rw [catL_take (by omega), List.length_append]; omega
theorem f127 (w : Nat) (b : Br) (K : Bk) (hw : wfL K.logs) (hk : kOk b K) (h : View) : GSpec Try.prog 127 [pP b.p] h (kE w b K) (New (kE w b K) (RowR K.logs.flatten)) := by
  have hlg := hk.logs
  have hlen := logs_len b
  have hwb : wfL b.logs := by rw [hlg]; exact hw
  have hb8 := hwb.len
  have hflat : catL b.ls = K.logs.flatten := by rw [← hlg]; simp [catL, Br.logs, List.flatMap]
  have h64 : ∀ p < b.ls.length, (b.ls.getD p default).2.length ≤ 64 := fun p hp => by
    have := hwb.log p (by omega)
    rwa [logs_get hp] at this
  refine GSpec.enter (fn := Try.f127) Try.func127 rfl (by kernel_rfl) ?_
  repeat' (conv => whnf
           first
           | (with_reducible refine NextSt.mk ?_))
  refine LoopSt.fix [3, 4, 5, 6, 7, 8, 9, 10, 11, 12, 13, 14, 15, 16, 17, 18, 19, 20, 21, 22] (fun ((k, B) : Nat × Buf) => [(3, .slice B.a (catL (b.ls.take k)).length B.cap), (4, iN k)]) (fun (k, B) => B.hp 70 ((catL (b.ls.take k)).flatMap enV) ++ kE w b K) (fun (k, B) => k ≤ b.ls.length ∧ B.ok 3 ((catL (b.ls.take k)).flatMap enV) (catL (b.ls.take k)).length) (fun (k, B) => b.ls.length - k) ((0, Buf.nil)) _ (Wk.refl _ _) (rfl) ?_ ?_ ?_
  · repeat' (first | exact True.intro | refine And.intro ?_ ?_ | rfl)
  · exact ⟨Nat.zero_le _, Buf.nil_ok 3⟩
  · rintro ⟨k, B⟩ d ⟨hk1, hB⟩
    dsimp only at hk1 hB ⊢
    have hbk := cat_le h64 k hk1
    by_cases hkl : k < b.ls.length
    · have hct := catL_take hkl
      have hrd := lgHp_rd (w := h) hk.ls hkl
      have hqb := hk.ls.get hkl
      have hq64 := h64 k hkl
      repeat' (conv => whnf
               first
               | (((with_reducible apply LoadSt.ownd (g := slV)); (· (repeat (first | exact List.Mem.head _ | with_reducible apply List.mem_append_right | with_reducible apply List.mem_cons_of_mem))); (· (exact Nat.zero_add _)); (· (omega))); unfold slV)
               | ((refine AppSt.rowm (g := enV) (ys := (b.ls.getD k default).2) (s := 3) (z := .agg ⟨[.int .i64 0, .int .i64 0, .string ⟨⟨[]⟩⟩]⟩) Gv.Loc.hd hB (Rd.appR (Rd.cons (Rd.cons hrd))) rfl (fun hx => Buf.none_len hqb hx) (fun _ => rfl) (fun _ => rfl) rfl rfl rfl rfl (by show _ * 32 ≤ _; omega) (by omega) ?_); intro D hD; rw [← hct] at hD ⊢)
               | (with_reducible refine NextSt.mk ?_)
               | (with_reducible refine OnBB.tt ?_)
               | ((with_reducible apply NW.addN); (· with_reducible rfl); (· exact natL _); (· omega))
               | ((with_reducible apply Cmp.yes); · omega)
               | ((with_reducible apply LoadSt.box); · (repeat (first | exact List.Mem.head _ | with_reducible apply List.mem_append_right)))
               | ((with_reducible apply IdxSl.own1); (· rfl); (· with_reducible rfl); · (omega)))
      have hl2 : (catL (b.ls.take (k + 1))).length = (catL (b.ls.take k)).length + (b.ls.getD k default).2.length := by rw [hct, List.length_append]
      rw [← hl2] at hD
      refine RoundFix.mk ((k + 1, D)) ?_ ?_ _ rfl (Wk.drop (by (try dsimp only); (try simp only [List.cons_append, List.nil_append]); (repeat (with_reducible exact List.Sublist.refl _)))) ?_
      · dsimp only; omega
      · repeat' (first | exact True.intro | refine And.intro ?_ ?_ | exact congrArg (fun n => Value.slice D.a n D.cap) hl2.symm | rfl)
      · exact ⟨by omega, hD⟩
    · have : k = b.ls.length := by omega
      subst this
      rw [List.take_length, hflat] at hB ⊢
      repeat' (conv => whnf
               first
               | (with_reducible refine NextSt.mk ?_)
               | (with_reducible refine OnBB.ff ?_)
               | ((with_reducible apply Cmp.no); · omega)
               | ((with_reducible apply LoadSt.box); · (repeat (first | exact List.Mem.head _ | with_reducible apply List.mem_append_right))))
      exact FinSt.new (H := B.hp 70 (K.logs.flatten.flatMap enV)) (R := RowR K.logs.flatten) (List.Sublist.refl _) ⟨B, rfl, rfl, hB⟩
theorem f129 (w : Nat) (b : Br) (K : Bk) (p : Nat) (hp : p < K.logs.length) (hw : wfL K.logs) (hk : kOk b K) (h : View) : GSpec Try.prog 129 [pP b.p, iN p] h (kE w b K) (New (kE w b K) (RowE (K.logs.getD p []))) := by
  have hlg := hk.logs
  have hlen := logs_len b
  have hb8 := hw.len
  rw [← hlg] at hw hp hb8 ⊢
  have hpl : p < b.ls.length := by omega
  have hlk := logs_get hpl
  have hl64 := hw.log p hp
  rw [hlk] at hl64 ⊢
  have hrd := lgHp_rd (w := h) hk.ls hpl
  have hqb := hk.ls.get hpl
  have e94 := f94 (p : Nat) 0 ((b.ls.length - 1 : Nat) : Int)
  rw [decide_eq_true (by omega)] at e94
  refine GSpec.enter (fn := Try.f129) Try.func129 rfl (by kernel_rfl) ?_
  repeat' (conv => whnf
           first
           | ((with_reducible refine CallSt.rd (f := 94) (X := .bool true) ?_ ?_); (· exact e94 _ _))
           | (((with_reducible apply LoadSt.ownd (g := slV)); (· (repeat (first | exact List.Mem.head _ | with_reducible apply List.mem_cons_of_mem))); (· (exact Nat.zero_add _)); (· (omega))); unfold slV)
           | (with_reducible refine NextSt.mk ?_)
           | (with_reducible refine OnBB.tt ?_)
           | (with_reducible refine OnBB.ff ?_)
           | ((with_reducible apply NW.subN); (· with_reducible rfl); (· exact natL _); (· omega))
           | ((with_reducible apply LoadSt.box); · (repeat (first | exact List.Mem.head _ | with_reducible apply List.mem_cons_of_mem)))
           | ((with_reducible refine AllocSt.mk ?_); intro _b _hb _hbO)
           | ((with_reducible apply IdxSl.own1); (· rfl); (· with_reducible rfl); · (omega)))
  conv => whnf
  refine AppSt.rowm (b := Buf.of _b 0) (g := enV) (xs := []) (ys := (b.ls.getD p default).2) (s := 3) (z := .agg ⟨[.int .i64 0, .int .i64 0, .string ⟨⟨[]⟩⟩]⟩) loc_nil (Buf.of_ok rfl) (Rd.cons (Rd.cons (Rd.cons hrd))) rfl (fun hx => Buf.none_len hqb hx) (fun _ => rfl) (fun _ => rfl) rfl rfl rfl rfl (by show _ * 32 ≤ _; omega) (by omega) ?_
  intro D hD
  simp only [List.nil_append, Nat.zero_add] at hD ⊢
  repeat' (conv => whnf
           first
           | (with_reducible refine NextSt.mk ?_))
  exact FinSt.new (H := D.hp 70 ((b.ls.getD p default).2.flatMap enV)) (R := RowE (b.ls.getD p default).2) (List.Sublist.refl _) ⟨D, rfl, rfl, hD⟩
end Go.Proofs.Ytlbmlimaobkhpaa
/- The reference's sums. -/
namespace Go.Proofs.Ytlbmlimaobkhpaa
open Go Go.Gv
set_option maxRecDepth 100000
set_option maxHeartbeats 4000000
set_option linter.unusedSimpArgs false
set_option linter.unusedVariables false
theorem f137G (F : Nat → Nat → Nat) (hF : ∀ s b, F s b < 18446744073709551616) (hW : ∀ s b : Nat, s < 18446744073709551616 → b < 256 → IntKind.u64.wrap (((natOp BinOp.xor ((s : Nat) : Int).toNat ((b : Nat) : Int).toNat : Nat) : Int) * 1099511628211) = ((F s b : Nat) : Int)) (l : List En) (a : Option Addr) (c : Nat) (hl : l.length ≤ 1000) (hok : ∀ e ∈ l, enOk e) (h : View) (O : Hp) (hr : Rd h O a (l.flatMap enV)) :
    GSpec Try.prog 137 [.slice a l.length c] h O (Ret O (uN (sumG F l))) := by
  refine GSpec.enter (fn := Try.f137) Try.func137 rfl (by kernel_rfl) ?_
  repeat' (conv => whnf
           first
           | (with_reducible refine NextSt.mk ?_))
  refine LoopSt.fix [3, 4, 5, 6, 7, 8, 9, 10, 11, 12, 13, 14, 15, 16, 17, 18, 19, 20, 21, 22, 23, 24, 25, 26, 27, 28, 29, 30, 31, 32, 33, 34, 35, 36, 37, 38, 39, 40, 41, 42, 43, 44, 45, 46, 47, 48, 49, 50, 51, 52, 53, 54, 55, 56, 57, 58] (fun (k : Nat) => [(3, uN (sumG F (l.take k))), (4, iN k)]) (fun _ => _) (fun k => k ≤ l.length) (fun k => l.length - k) (0) _ (Wk.refl _ _) (rfl) ?_ ?_ ?_
  · repeat' (first | exact True.intro | refine And.intro ?_ ?_ | rfl)
  · exact Nat.zero_le _
  · intro k d2 hk
    dsimp only
    by_cases hkl : k < l.length
    · have hst := sumG_take (F := F) hkl
      have hok1 := hok _ (getD_mem (d := default) hkl)
      have hs0 : sumG F (l.take k) < 18446744073709551616 := foldl_lt hF ((l.take k).flatMap eBs) 14695981039346656037 (by decide)
      generalize sumG F (l.take k) = s0 at *
      obtain ⟨⟨eo, en, eb⟩, hx⟩ : ∃ x, x = l.getD k default := ⟨_, rfl⟩
      rw [← hx] at hst hok1
      obtain ⟨ho1, ho2, hn1, hn2, hb⟩ := hok1
      simp only at ho1 ho2 hn1 hn2 hb
      obtain ⟨eo, rfl⟩ := nat_of ho1
      obtain ⟨en, rfl⟩ := nat_of hn1
      have hb' : List.length (En.body ⟨eo, en, eb⟩) ≤ 1024 := hb
      have hd4 : eb.length / 256 % 256 = eb.length / 256 := Nat.mod_eq_of_lt (by omega)
      repeat' (conv => whnf
               first
               | (((with_reducible apply LoadSt.rdf (g := enV) (s := 3)); (· exact hr); (· exact fun _ => rfl); (· (omega)); (· decide)); rw [← hx])
               | ((refine ToStr.bytes (l := [eo, en, eb.length % 256, eb.length / 256]) (Rd.own0 (List.Mem.head _)) ?_ rfl ?_); (· intro x hx; simp only [List.mem_cons, List.not_mem_nil, or_false] at hx; omega))
               | ((with_reducible apply StrAdd.mk); (· (simp only [List.length_append, List.length_map, List.length_cons, List.length_nil]; omega)))
               | ((with_reducible refine DrawSt.walk [0, 1, 2, 3, 4, 5, 6, 7, 8, 9, 10, 11, 12, 13, 14, 15, 16, 17, 20, 21, 22, 23, 24, 18, 19, 25, 26] mixed ?_ ?_); · decide +kernel)
               | ((with_reducible apply IdxSl.rdg (g := enV) (s := 3)); (· with_reducible assumption); (· exact fun _ => rfl); (· decide); (· rfl); (· with_reducible rfl); (· (omega)); · (omega))
               | (with_reducible refine NextSt.mk ?_)
               | (with_reducible refine OnBB.tt ?_)
               | ((with_reducible apply NW.u8N); (· with_reducible rfl); (· omega))
               | ((with_reducible apply Cmp.yes); · omega)
               | ((with_reducible refine AllocSt.mk ?_); intro _b _hb _hbO)
               | ((with_reducible apply DivSt.quoN); (· with_reducible rfl); (· exact natL _); (· omega))
               | ((with_reducible apply DivSt.remN); (· with_reducible rfl); (· exact natL _); (· omega)))
      conv => whnf
      obtain ⟨T, hT⟩ : ∃ x : Str, x = [eo, en, eb.length % 256, eb.length / 256].map UInt8.ofNat ++ eb := ⟨_, rfl⟩
      have hnb : nb T = eBs ⟨eo, en, eb⟩ := by
        rw [hT, nb_append]
        unfold eBs
        congr 1
        simp only [nb, List.map_cons, List.map_nil, Int.toNat_natCast]
        rw [ofNat8 (by omega), ofNat8 (by omega), ofNat8 (by omega), ofNat8 (by omega), hd4]
      have hTl : T.length = (eBs ⟨eo, en, eb⟩).length := by rw [← hnb, nb_len]
      have hTb : T.length ≤ 2000 := by rw [hT]; simp only [List.length_append, List.length_map, List.length_cons, List.length_nil]; omega
      refine LoopSt.fix [3, 7, 46, 47, 48, 49, 50, 51, 52, 53, 54, 55, 56, 57, 58] (fun (j : Nat) => [(3, uN (((eBs ⟨eo, en, eb⟩).take j).foldl F s0)), (7, iN j)]) (fun _ => _) (fun j => j ≤ T.length) (fun j => T.length - j) (0) _ (Wk.refl _ _) (rfl) ?_ ?_ ?_
      · repeat' (first | exact True.intro | refine And.intro ?_ ?_ | rfl)
      · exact Nat.zero_le _
      · intro j d3 hj
        dsimp only
        have hjs := foldl_lt hF ((eBs ⟨eo, en, eb⟩).take j) s0 hs0
        by_cases hjl : j < T.length
        · have hjl2 : j < (eBs ⟨eo, en, eb⟩).length := by omega
          have hbj : (eBs ⟨eo, en, eb⟩).getD j 0 < 256 := by
            rw [← hnb]; exact nb_byt _ _ (getD_mem' (by rw [nb_len]; exact hjl))
          have hstj : ((eBs ⟨eo, en, eb⟩).take (j + 1)).foldl F s0 = F (((eBs ⟨eo, en, eb⟩).take j).foldl F s0) ((eBs ⟨eo, en, eb⟩).getD j 0) := by
            rw [take_succ (d := 0) hjl2, List.foldl_append]; rfl
          generalize ((eBs ⟨eo, en, eb⟩).take j).foldl F s0 = sj at *
          have hlt : ((j : Nat) : Int) < ((([eo, en, eb.length % 256, eb.length / 256].map UInt8.ofNat ++ eb).length : Nat) : Int) := by rw [← hT]; omega
          have hw1 := hW sj ((eBs ⟨eo, en, eb⟩).getD j 0) hjs hbj
          have hxb : sj ^^^ ((eBs ⟨eo, en, eb⟩).getD j 0) < 18446744073709551616 := Nat.xor_lt_two_pow (n := 64) hjs (Nat.lt_trans hbj (by decide))
          repeat' (conv => whnf
                   first
                   | (((with_reducible apply Cmp.yes); · exact hlt))
                   | ((refine StrIdx.m (l := [eo, en, eb.length % 256, eb.length / 256].map UInt8.ofNat ++ eb) (j := j) rfl (by rw [← hT]; exact hjl) ?_); rw [← hT, hnb])
                   | ((refine NW.u64w ?_); rw [hw1, ← hstj])
                   | (with_reducible refine NextSt.mk ?_)
                   | (with_reducible refine OnBB.tt ?_)
                   | ((with_reducible apply NW.addN); (· with_reducible rfl); (· exact natL _); (· omega))
                   | ((with_reducible apply NW.u64N); (· with_reducible rfl); (· omega))
                   | ((with_reducible apply Bits.u64); (· simp); · omega))
          refine RoundFix.mk (j + 1) ?_ ?_ _ rfl (Wk.drop (by (try dsimp only); (try simp only [List.cons_append, List.nil_append]); (repeat (with_reducible exact List.Sublist.refl _)))) ?_
          · omega
          · repeat' (first | exact True.intro | refine And.intro ?_ ?_ | rfl)
          · omega
        · have hlt : ¬ ((j : Nat) : Int) < ((([eo, en, eb.length % 256, eb.length / 256].map UInt8.ofNat ++ eb).length : Nat) : Int) := by rw [← hT]; omega
          rw [List.take_of_length_le (by omega), ← hst]
          repeat' (conv => whnf
                   first
                   | (((with_reducible apply Cmp.no); · exact hlt))
                   | (with_reducible refine NextSt.mk ?_)
                   | (with_reducible refine OnBB.ff ?_)
                   | ((with_reducible apply NW.addN); (· with_reducible rfl); (· exact natL _); (· omega)))
          refine RoundFix.mk (k + 1) ?_ ?_ _ rfl (Wk.drop (by (try dsimp only); (try simp only [List.cons_append, List.nil_append]); (repeat (first | with_reducible exact List.Sublist.refl _ | with_reducible apply List.Sublist.cons)))) ?_
          · omega
          · repeat' (first | exact True.intro | refine And.intro ?_ ?_ | rfl)
          · omega
    · have : k = l.length := by omega
      subst this
      rw [List.take_length]
      repeat' (conv => whnf
               first
               | (with_reducible refine NextSt.mk ?_)
               | (with_reducible refine OnBB.ff ?_)
               | ((with_reducible apply Cmp.no); · omega))
      conv => whnf
      refine FinSt.ret (by (try dsimp only); (try simp only [List.cons_append, List.nil_append]); (repeat (with_reducible exact List.Sublist.refl _))) ?_
      rfl
theorem fs1_wrap (s b : Nat) : IntKind.u64.wrap (((natOp BinOp.xor ((s : Nat) : Int).toNat ((b : Nat) : Int).toNat : Nat) : Int) * 1099511628211) = ((fs1 s b : Nat) : Int) := by
  have e : IntKind.u64.wrap (((s ^^^ b : Nat) : Int) * 1099511628211) = ((fs1 s b : Nat) : Int) := by
    rw [IntKind.wrap_u64]
    unfold fs1
    omega
  exact e
theorem f137 (l : List En) (a : Option Addr) (c : Nat) (hl : l.length ≤ 1000) (hok : ∀ e ∈ l, enOk e) (h : View) (O : Hp) (hr : Rd h O a (l.flatMap enV)) :
    GSpec Try.prog 137 [.slice a l.length c] h O (Ret O (uN (sumL l))) := f137G fs1 fs1_lt (fun s b _ _ => fs1_wrap s b) l a c hl hok h O hr
end Go.Proofs.Ytlbmlimaobkhpaa
/- The reference's tallies. -/
namespace Go.Proofs.Ytlbmlimaobkhpaa
open Go Go.Gv
set_option maxRecDepth 100000
set_option maxHeartbeats 4000000
set_option linter.unusedSimpArgs false
set_option linter.unusedVariables false
theorem f126 (w : Nat) (b : Br) (K : Bk) (hw : wfL K.logs) (hk : kOk b K) (h : View) : GSpec Try.prog 126 [pP b.p] h (kE w b K) (New (kE w b K) (TyR K.logs)) := by
  have hlg := hk.logs
  have hlen := logs_len b
  have hwb : wfL b.logs := by rw [hlg]; exact hw
  have hb8 := hwb.len
  have hKl : K.logs.length = b.ls.length := by rw [← hlg]; exact hlen
  refine GSpec.enter (fn := Try.f126) Try.func126 rfl (by kernel_rfl) ?_
  repeat' (conv => whnf
           first
           | (with_reducible refine NextSt.mk ?_)
           | ((with_reducible refine AllocSt.mk ?_); intro _b _hb _hbO)
           | ((with_reducible apply StoreSt.box); (· (repeat (exact Upd.hd))); (· rfl); (· rfl); (· rfl)))
  conv => whnf
  rename_i b2 hb2 hbO2
  refine LoopSt.fix [4, 6, 7, 8, 9, 10, 11, 12, 13, 14, 15, 16, 17, 18, 19, 20, 21, 22, 23, 24, 25, 26, 27, 28, 29, 30, 31, 32, 33, 34, 35, 36, 37, 38, 39, 40] (fun ((k, A, B) : Nat × Buf × Buf) => [(4, iN k)]) (fun (k, A, B) => (_b, .cells ⟨[.slice A.a k A.cap, .slice B.a k B.cap]⟩ 81 (0, 0)) :: (b2, .cells ⟨[.slice none 0 0, .slice none 0 0]⟩ 81 (0, 0)) :: (A.hp 3 (((b.logs.take k).map fun q => (q.length : Int)).map zV) ++ (B.hp 108 (((b.logs.take k).map sumL).map uN) ++ kE w b K))) (fun (k, A, B) => k ≤ b.ls.length ∧ A.ok 1 (((b.logs.take k).map fun q => (q.length : Int)).map zV) k ∧ B.ok 1 (((b.logs.take k).map sumL).map uN) k) (fun (k, A, B) => b.ls.length - k) ((0, Buf.nil, Buf.nil)) _ (Wk.refl _ _) (rfl) ?_ ?_ ?_
  · repeat' (first | exact True.intro | refine And.intro ?_ ?_ | rfl)
  · exact ⟨Nat.zero_le _, Buf.nil_ok 1, Buf.nil_ok 1⟩
  · rintro ⟨k, A, B⟩ d2 ⟨hk2, hA, hB⟩
    dsimp only at hk2 hA hB ⊢
    by_cases hkl : k < b.ls.length
    · have hlk := logs_get hkl
      have hkl2 : k < b.logs.length := by omega
      have hl64 := hwb.log k hkl2
      have henk := hwb.en k hkl2
      rw [hlk] at hl64 henk
      have hen : ∀ e ∈ (b.ls.getD k default).2, enOk e := fun e he => by
        obtain ⟨i, hi, rfl⟩ := List.getElem_of_mem he
        have := (henk i hi).1
        rwa [List.getD_eq_getElem?_getD, List.getElem?_eq_getElem hi] at this
      have hrd := lgHp_rd (w := h) hk.ls hkl
      repeat' (conv => whnf
               first
               | (((with_reducible apply LoadSt.ownd (g := slV)); (· (repeat (first | exact List.Mem.head _ | with_reducible apply List.mem_append_right | with_reducible apply List.mem_cons_of_mem))); (· (exact Nat.zero_add _)); (· (omega))); unfold slV)
               | (((with_reducible apply AppSt.lit1 (g := zV) (x := ((b.ls.getD k default).2.length : Int)) (z := .int .i64 0)); (· (repeat (first | with_reducible exact Loc.hd | with_reducible apply Loc.tl | with_reducible apply Loc.skip))); (· exact hA); (· (repeat (exact List.Mem.head _))); (· rfl); (· rfl); (· rfl); (· rfl); (· rfl); (· rfl); (· (show _ * 8 ≤ _; omega)); (· omega); intro A' hA'))
               | (((with_reducible refine CallG.rd (f := 137) (X := uN (sumL (b.ls.getD k default).2)) ?_ ?_); (· exact f137 (b.ls.getD k default).2 _ _ (by omega) hen _ _ (by (repeat (first | with_reducible assumption | with_reducible apply Rd.cons | with_reducible apply Rd.appR))))))
               | (((with_reducible apply AppSt.lit1 (g := uN) (x := sumL (b.ls.getD k default).2) (z := .int .u64 0)); (· (repeat (first | with_reducible exact Loc.hd | with_reducible apply Loc.tl | with_reducible apply Loc.skip))); (· exact hB); (· (repeat (exact List.Mem.head _))); (· rfl); (· rfl); (· rfl); (· rfl); (· rfl); (· rfl); (· (show _ * 8 ≤ _; omega)); (· omega); intro B' hB'))
               | ((with_reducible refine DrawSt.walk [0, 1, 2, 3, 4, 5, 6, 7, 8, 9, 10, 11, 12, 13] mixed ?_ ?_); · decide +kernel)
               | (with_reducible refine NextSt.mk ?_)
               | (with_reducible refine OnBB.tt ?_)
               | ((with_reducible apply NW.addN); (· with_reducible rfl); (· exact natL _); (· omega))
               | ((with_reducible apply Cmp.yes); · omega)
               | ((with_reducible apply LoadSt.box); · (repeat (first | exact List.Mem.head _ | with_reducible apply List.mem_append_right | with_reducible apply List.mem_cons_of_mem)))
               | ((with_reducible refine AllocSt.mk ?_); intro _b _hb _hbO)
               | ((with_reducible apply StoreSt.box); (· (repeat (first | exact Upd.hd | apply Upd.tl))); (· rfl); (· rfl); (· rfl))
               | ((with_reducible apply IdxSl.own1); (· rfl); (· with_reducible rfl); · (omega)))
      have e1 : (b.logs.take k).map (fun q => (q.length : Int)) ++ [((b.ls.getD k default).2.length : Int)] = (b.logs.take (k + 1)).map (fun q => (q.length : Int)) := by rw [take_succ (d := []) hkl2, List.map_append, hlk]; rfl
      have e2 : (b.logs.take k).map sumL ++ [sumL (b.ls.getD k default).2] = (b.logs.take (k + 1)).map sumL := by rw [take_succ (d := []) hkl2, List.map_append, hlk]; rfl
      rw [e1] at hA' ⊢
      rw [e2] at hB' ⊢
      refine RoundFix.mk ((k + 1, A', B')) ?_ ?_ _ rfl (Wk.drop (by (try dsimp only); (try simp only [List.cons_append, List.nil_append]); (repeat (first | with_reducible exact List.Sublist.refl _ | with_reducible apply List.Sublist.cons)))) ?_
      · dsimp only; omega
      · repeat' (first | exact True.intro | refine And.intro ?_ ?_ | rfl)
      · exact ⟨by omega, hA', hB'⟩
    · have : k = b.ls.length := by omega
      subst this
      rw [List.take_of_length_le (by omega)] at hA hB ⊢
      rw [← hlen, hlg] at hA hB ⊢
      repeat' (conv => whnf
               first
               | (with_reducible refine NextSt.mk ?_)
               | (with_reducible refine OnBB.ff ?_)
               | ((with_reducible apply Cmp.no); · omega)
               | ((with_reducible apply LoadSt.box); · (repeat (first | exact List.Mem.head _ | with_reducible apply List.mem_append_right | with_reducible apply List.mem_cons_of_mem)))
               | ((with_reducible apply LoadSt.boxAgg); · (repeat (first | exact List.Mem.head _ | with_reducible apply List.mem_cons_of_mem)))
               | ((with_reducible apply StoreSt.box); (· (repeat (first | exact Upd.hd | apply Upd.tl))); (· rfl); (· rfl); (· rfl)))
      conv => whnf
      refine FinSt.new (H := A.hp 3 ((K.logs.map fun q => (q.length : Int)).map zV) ++ B.hp 108 ((K.logs.map sumL).map uN)) (R := TyR K.logs) ?_ ⟨A, B, rfl, rfl, hA, hB⟩
      refine List.Sublist.cons _ (List.Sublist.cons _ ?_)
      rw [List.append_assoc]
      exact List.Sublist.refl _
end Go.Proofs.Ytlbmlimaobkhpaa
/- The reference's books: what they want. -/
namespace Go.Proofs.Ytlbmlimaobkhpaa
open Go Go.Gv
set_option maxRecDepth 100000
set_option maxHeartbeats 4000000
set_option linter.unusedSimpArgs false
set_option linter.unusedVariables false
theorem f130 (w : Nat) (b : Br) (K : Bk) (t : Ty) (G : Hp) (hw : wfL K.logs) (hk : kOk b K) (ht1 : t.ns.length = K.logs.length) (ht2 : t.us.length = K.logs.length) (hp : ∀ n ∈ t.ns, 0 ≤ n) (h : View) (ht : tyR h (kE w b K ++ G) t) :
    GSpec Try.prog 130 [pP b.p, .agg ⟨tyV t⟩] h (kE w b K ++ G) (New (kE w b K ++ G) (RowE (wantI K.logs t.ns t.us K.logs.length))) := by
  have hlg := hk.logs
  have hlen := logs_len b
  have hwb : wfL b.logs := by rw [hlg]; exact hw
  have hb8 := hwb.len
  rw [← hlg] at ht1 ht2 ⊢
  obtain ⟨a1, c1, ns, a2, c2, us⟩ := t
  obtain ⟨hn, hu, hn1, hu1⟩ := ht
  simp only at ht1 ht2 hp hn hu hn1 hu1 ⊢
  have eO : kE w b K ++ G = bke b.p (bkV b) w K.at_ K.falls :: lgc b :: (lgHp b.ls ++ G) := rfl
  rw [eO] at hn hu ⊢
  show GSpec Try.prog 130 [_, .agg ⟨[.slice a1 ns.length c1, .slice a2 us.length c2]⟩] h _ _
  refine GSpec.enter (fn := Try.f130) Try.func130 rfl (by kernel_rfl) ?_
  repeat' (conv => whnf
           first
           | ((with_reducible refine DrawSt.walk [0, 1, 2, 3, 4, 5, 6, 7, 8, 9, 10, 11, 12, 13, 14, 15, 16, 17, 18, 19] mixed ?_ ?_); · decide +kernel)
           | (with_reducible refine NextSt.mk ?_)
           | (with_reducible refine OnBB.ff ?_)
           | ((with_reducible apply Cmp.no); · omega)
           | ((with_reducible apply LoadSt.box); · (repeat (first | exact List.Mem.head _ | with_reducible apply List.mem_cons_of_mem)))
           | ((with_reducible refine AllocSt.mk ?_); intro _b _hb _hbO))
  conv => whnf
  obtain ⟨bx, hbx⟩ : ∃ x, x = _b := ⟨_, rfl⟩
  subst hbx
  refine LoopSt.fix [4, 5, 6, 31, 32, 33, 34, 35, 36, 37, 38, 39, 40, 41, 42, 43, 44, 45] (fun (k : Nat) => [(6, iN k)]) (fun _ => _) (fun k => k ≤ b.ls.length) (fun k => b.ls.length - k) (0) _ (Wk.refl _ _) (rfl) ?_ ?_ ?_
  · repeat' (first | exact True.intro | refine And.intro ?_ ?_ | rfl)
  · exact Nat.zero_le _
  · intro k d1 hk1
    by_cases hkl : k < b.ls.length
    · have hpn := hp _ (getD_mem (d := default) (show k < ns.length by omega))
      repeat' (conv => whnf
               first
               | (((with_reducible apply LoadSt.rdm (g := zV)); (· exact Rd.cons hn); (· omega)); unfold zV)
               | (with_reducible refine NextSt.mk ?_)
               | (with_reducible refine OnBB.tt ?_)
               | (with_reducible refine OnBB.ff ?_)
               | ((with_reducible apply NW.addN); (· with_reducible rfl); (· exact natL _); (· omega))
               | ((with_reducible apply Cmp.yes); · omega)
               | ((with_reducible apply Cmp.no); · omega)
               | ((with_reducible apply LoadSt.box); · (repeat (first | exact List.Mem.head _ | with_reducible apply List.mem_cons_of_mem)))
               | ((with_reducible apply IdxSl.rd1); (· with_reducible assumption); (· rfl); (· with_reducible rfl); (· (omega)); · ((simp only [List.length_map, List.length_append, List.length_cons, List.length_nil, List.length_take, List.length_drop, List.length_replicate, List.length_set] at *; omega))))
      refine RoundFix.mk (k + 1) ?_ ?_ _ rfl (Wk.drop (by (try dsimp only); (try simp only [List.cons_append, List.nil_append]); (repeat (with_reducible exact List.Sublist.refl _)))) ?_
      · omega
      · repeat' (first | exact True.intro | refine And.intro ?_ ?_ | rfl)
      · omega
    · have : k = b.ls.length := by omega
      subst this
      repeat' (conv => whnf
               first
               | (with_reducible refine NextSt.mk ?_)
               | (with_reducible refine OnBB.ff ?_)
               | ((with_reducible apply Cmp.no); · omega)
               | ((with_reducible apply LoadSt.box); · (repeat (first | exact List.Mem.head _ | with_reducible apply List.mem_cons_of_mem))))
      conv => whnf
      refine LoopSt.fix [7, 8, 9, 10, 46, 47, 48, 49, 50, 51, 52, 53, 54, 55, 56, 57, 58, 59, 60, 61, 62, 63, 64, 65, 66, 67, 68, 69, 70, 71, 72, 73, 74, 75, 76, 77, 78, 79, 80, 81, 82, 83, 84, 85, 86, 87] (fun ((k, A) : Nat × Buf) => [(7, .slice A.a (wantI b.logs ns us k).length A.cap), (8, iN k)]) (fun (k, A) => A.hp 70 ((wantI b.logs ns us k).flatMap enV) ++ ((bx, .cells ⟨[.slice a1 ns.length c1, .slice a2 us.length c2]⟩ 81 (0, 0)) :: (bke b.p (bkV b) w K.at_ K.falls :: lgc b :: (lgHp b.ls ++ G)))) (fun (k, A) => k ≤ b.ls.length ∧ A.ok 3 ((wantI b.logs ns us k).flatMap enV) (wantI b.logs ns us k).length) (fun (k, A) => b.ls.length - k) ((0, Buf.nil)) _ (Wk.refl _ _) (rfl) ?_ ?_ ?_
      · repeat' (first | exact True.intro | refine And.intro ?_ ?_ | rfl)
      · exact ⟨Nat.zero_le _, Buf.nil_ok 3⟩
      · rintro ⟨k, A⟩ d2 ⟨hk2, hA⟩
        dsimp only at hk2 hA ⊢
        by_cases hkl : k < b.ls.length
        · have hlk := logs_get hkl
          have hkl2 : k < b.logs.length := by omega
          have hl64 := hwb.log k hkl2
          have henk := hwb.en k hkl2
          rw [hlk] at hl64 henk
          have hen : ∀ e ∈ (b.ls.getD k default).2, enOk e := fun e he => by
            obtain ⟨i, hi, rfl⟩ := List.getElem_of_mem he
            have := (henk i hi).1
            rwa [List.getD_eq_getElem?_getD, List.getElem?_eq_getElem hi] at this
          have hrd := lgHp_rd (w := h) hk.ls hkl
          have hwl := wantI_len (ns := ns) (us := us) hwb.log k (by omega)
          have hqb := hk.ls.get hkl
          have hqc := Buf.le hqb
          have hpn := hp _ (getD_mem (d := default) (show k < ns.length by omega))
          have hst : wantI b.logs ns us (k + 1) = wantI b.logs ns us k ++ (b.ls.getD k default).2.drop (wantN (b.ls.getD k default).2 (ns.getD k default) (us.getD k default)) := by rw [← hlk]; rfl
          obtain ⟨n, hn3⟩ := nat_of hpn
          rw [hn3] at hst
          by_cases hc1 : (b.ls.getD k default).2.length < n
          · rw [show wantN (b.ls.getD k default).2 n (us.getD k default) = 0 from if_pos (.inl (by omega)), List.drop_zero] at hst
            repeat' (conv => whnf
                     first
                     | (((with_reducible apply LoadSt.ownd (g := slV)); (· (repeat (first | exact List.Mem.head _ | with_reducible apply List.mem_append_right | with_reducible apply List.mem_cons_of_mem))); (· (exact Nat.zero_add _)); (· (omega))); unfold slV)
                     | (((with_reducible apply LoadSt.rdm (g := zV)); (· exact Rd.appR (Rd.cons hn)); (· omega)); rw [hn3]; unfold zV)
                     | (((with_reducible apply SlSl.lo (l := 0)); (· rfl); (· omega); (· omega)))
                     | ((refine AppSt.rowm (g := enV) (ys := (b.ls.getD k default).2.drop 0) (s := 3) (z := .agg ⟨[.int .i64 0, .int .i64 0, .string ⟨⟨[]⟩⟩]⟩) Gv.Loc.hd hA (by rw [← fl_drop]; exact Rd.slice (Rd.appR (Rd.cons (Rd.cons (Rd.cons (Rd.appL hrd))))) 0 _ 3 (fun e => by have := hqb.1; omega)) (by rw [List.length_drop]) (none_drop hqb) (fun _ => rfl) (fun _ => rfl) rfl rfl rfl rfl (by show _ * 32 ≤ _; omega) (by omega) ?_); intro A' hA')
                     | ((with_reducible refine DrawSt.walk [0, 1, 2, 3, 4, 5, 6, 7, 9, 10, 11, 12, 13, 8, 14, 15] mixed ?_ ?_); · decide +kernel)
                     | (with_reducible refine NextSt.mk ?_)
                     | (with_reducible refine OnBB.tt ?_)
                     | ((with_reducible apply NW.addN); (· with_reducible rfl); (· exact natL _); (· omega))
                     | ((with_reducible apply Cmp.yes); · omega)
                     | ((with_reducible apply LoadSt.box); · (repeat (first | exact List.Mem.head _ | with_reducible apply List.mem_append_right | with_reducible apply List.mem_cons_of_mem)))
                     | ((with_reducible apply IdxSl.own1); (· rfl); (· with_reducible rfl); · (omega))
                     | ((with_reducible apply IdxSl.rd1); (· with_reducible assumption); (· rfl); (· with_reducible rfl); (· (omega)); · ((simp only [List.length_map, List.length_append, List.length_cons, List.length_nil, List.length_take, List.length_drop, List.length_replicate, List.length_set] at *; omega))))
            rw [List.drop_zero, ← hst] at hA' ⊢
            have hl2 : (wantI b.logs ns us (k + 1)).length = (wantI b.logs ns us k).length + ((b.ls.getD k default).2.length - 0) := by rw [hst, List.length_append, Nat.sub_zero]
            rw [← hl2] at hA'
            refine RoundFix.mk ((k + 1, A')) ?_ ?_ _ rfl (Wk.drop (by (try dsimp only); (try simp only [List.cons_append, List.nil_append]); (repeat (with_reducible exact List.Sublist.refl _)))) ?_
            · dsimp only; omega
            · repeat' (first | exact True.intro | refine And.intro ?_ ?_ | exact congrArg (fun n => Value.slice A'.a n A'.cap) hl2.symm | rfl)
            · exact ⟨by omega, hA'⟩
          · have hlt : ((b.ls.getD k default).2.take n).length = n := by rw [List.length_take]; omega
            have e137 : ∀ h O, Rd h O (b.ls.getD k default).1.a ((b.ls.getD k default).2.flatMap enV) → GSpec Try.prog 137 [.slice (b.ls.getD k default).1.a n (b.ls.getD k default).1.cap] h O (Ret O (uN (sumL ((b.ls.getD k default).2.take n)))) := fun h O hr => by
              have := f137 ((b.ls.getD k default).2.take n) (b.ls.getD k default).1.a (b.ls.getD k default).1.cap (by omega) (fun e he => hen e (List.mem_of_mem_take he)) h O (by rw [← fl_take]; exact hr.take _)
              rwa [hlt] at this
            by_cases hs : sumL ((b.ls.getD k default).2.take n) = us.getD k default
            · rw [show wantN (b.ls.getD k default).2 n (us.getD k default) = n from by unfold wantN; rw [Int.toNat_natCast, if_neg (fun h1 => h1.elim (fun h1 => by omega) fun h1 => h1 hs)]] at hst
              repeat' (conv => whnf
                       first
                       | (((with_reducible apply LoadSt.ownd (g := slV)); (· (repeat (first | exact List.Mem.head _ | with_reducible apply List.mem_append_right | with_reducible apply List.mem_cons_of_mem))); (· (exact Nat.zero_add _)); (· (omega))); unfold slV)
                       | (((with_reducible apply LoadSt.rdm (g := zV)); (· exact Rd.appR (Rd.cons hn)); (· omega)); rw [hn3]; unfold zV)
                       | (((with_reducible apply LoadSt.rdm (g := uN)); (· exact Rd.appR (Rd.cons hu)); (· omega)); unfold uN)
                       | (((with_reducible refine CallG.rd (f := 137) (X := uN (sumL ((b.ls.getD k default).2.take n))) ?_ ?_); (· exact e137 _ _ (Rd.appR (Rd.cons (Rd.cons (Rd.cons (Rd.appL hrd))))))))
                       | ((rw [hs]); ((with_reducible apply Cmp.no); · exact fun h => h rfl))
                       | (((with_reducible apply SlSl.lo (l := n)); (· rfl); (· omega); (· omega)))
                       | ((refine AppSt.rowm (g := enV) (ys := (b.ls.getD k default).2.drop n) (s := 3) (z := .agg ⟨[.int .i64 0, .int .i64 0, .string ⟨⟨[]⟩⟩]⟩) Gv.Loc.hd hA (by rw [← fl_drop]; exact Rd.slice (Rd.appR (Rd.cons (Rd.cons (Rd.cons (Rd.appL hrd))))) n _ 3 (fun e => by have := hqb.1; omega)) (by rw [List.length_drop]) (none_drop hqb) (fun _ => rfl) (fun _ => rfl) rfl rfl rfl rfl (by show _ * 32 ≤ _; omega) (by omega) ?_); intro A' hA')
                       | ((with_reducible refine DrawSt.walk [0, 1, 2, 3, 4, 5, 6, 7, 9, 10, 11, 12, 13, 8, 14, 15] mixed ?_ ?_); · decide +kernel)
                       | (with_reducible refine NextSt.mk ?_)
                       | (with_reducible refine OnBB.tt ?_)
                       | (with_reducible refine OnBB.ff ?_)
                       | ((with_reducible apply NW.addN); (· with_reducible rfl); (· exact natL _); (· omega))
                       | ((with_reducible apply Cmp.yes); · omega)
                       | ((with_reducible apply Cmp.no); · omega)
                       | ((with_reducible apply LoadSt.box); · (repeat (first | exact List.Mem.head _ | with_reducible apply List.mem_append_right | with_reducible apply List.mem_cons_of_mem)))
                       | ((with_reducible apply IdxSl.own1); (· rfl); (· with_reducible rfl); · (omega))
                       | ((with_reducible apply IdxSl.rd1); (· with_reducible assumption); (· rfl); (· with_reducible rfl); (· (omega)); · ((simp only [List.length_map, List.length_append, List.length_cons, List.length_nil, List.length_take, List.length_drop, List.length_replicate, List.length_set] at *; omega)))
                       | ((with_reducible apply SlSl.hi); (· with_reducible rfl); (· (omega))))
              rw [← hst] at hA' ⊢
              have hl2 : (wantI b.logs ns us (k + 1)).length = (wantI b.logs ns us k).length + ((b.ls.getD k default).2.length - n) := by rw [hst, List.length_append, List.length_drop]
              rw [← hl2] at hA'
              refine RoundFix.mk ((k + 1, A')) ?_ ?_ _ rfl (Wk.drop (by (try dsimp only); (try simp only [List.cons_append, List.nil_append]); (repeat (with_reducible exact List.Sublist.refl _)))) ?_
              · dsimp only; omega
              · repeat' (first | exact True.intro | refine And.intro ?_ ?_ | exact congrArg (fun n => Value.slice A'.a n A'.cap) hl2.symm | rfl)
              · exact ⟨by omega, hA'⟩
            · rw [show wantN (b.ls.getD k default).2 n (us.getD k default) = 0 from if_pos (.inr (by rw [Int.toNat_natCast]; exact hs)), List.drop_zero] at hst
              repeat' (conv => whnf
                       first
                       | (((with_reducible apply LoadSt.ownd (g := slV)); (· (repeat (first | exact List.Mem.head _ | with_reducible apply List.mem_append_right | with_reducible apply List.mem_cons_of_mem))); (· (exact Nat.zero_add _)); (· (omega))); unfold slV)
                       | (((with_reducible apply LoadSt.rdm (g := zV)); (· exact Rd.appR (Rd.cons hn)); (· omega)); rw [hn3]; unfold zV)
                       | (((with_reducible apply LoadSt.rdm (g := uN)); (· exact Rd.appR (Rd.cons hu)); (· omega)); unfold uN)
                       | (((with_reducible refine CallG.rd (f := 137) (X := uN (sumL ((b.ls.getD k default).2.take n))) ?_ ?_); (· exact e137 _ _ (Rd.appR (Rd.cons (Rd.cons (Rd.cons (Rd.appL hrd))))))))
                       | (((with_reducible apply Cmp.yes); · (exact fun h => hs (by omega))))
                       | (((with_reducible apply SlSl.lo (l := 0)); (· rfl); (· omega); (· omega)))
                       | ((refine AppSt.rowm (g := enV) (ys := (b.ls.getD k default).2.drop 0) (s := 3) (z := .agg ⟨[.int .i64 0, .int .i64 0, .string ⟨⟨[]⟩⟩]⟩) Gv.Loc.hd hA (by rw [← fl_drop]; exact Rd.slice (Rd.appR (Rd.cons (Rd.cons (Rd.cons (Rd.appL hrd))))) 0 _ 3 (fun e => by have := hqb.1; omega)) (by rw [List.length_drop]) (none_drop hqb) (fun _ => rfl) (fun _ => rfl) rfl rfl rfl rfl (by show _ * 32 ≤ _; omega) (by omega) ?_); intro A' hA')
                       | ((with_reducible refine DrawSt.walk [0, 1, 2, 3, 4, 5, 6, 7, 9, 10, 11, 12, 13, 8, 14, 15] mixed ?_ ?_); · decide +kernel)
                       | (with_reducible refine NextSt.mk ?_)
                       | (with_reducible refine OnBB.tt ?_)
                       | (with_reducible refine OnBB.ff ?_)
                       | ((with_reducible apply NW.addN); (· with_reducible rfl); (· exact natL _); (· omega))
                       | ((with_reducible apply Cmp.yes); · omega)
                       | ((with_reducible apply Cmp.no); · omega)
                       | ((with_reducible apply LoadSt.box); · (repeat (first | exact List.Mem.head _ | with_reducible apply List.mem_append_right | with_reducible apply List.mem_cons_of_mem)))
                       | ((with_reducible apply IdxSl.own1); (· rfl); (· with_reducible rfl); · (omega))
                       | ((with_reducible apply IdxSl.rd1); (· with_reducible assumption); (· rfl); (· with_reducible rfl); (· (omega)); · ((simp only [List.length_map, List.length_append, List.length_cons, List.length_nil, List.length_take, List.length_drop, List.length_replicate, List.length_set] at *; omega)))
                       | ((with_reducible apply SlSl.hi); (· with_reducible rfl); (· (omega))))
              rw [List.drop_zero, ← hst] at hA' ⊢
              have hl2 : (wantI b.logs ns us (k + 1)).length = (wantI b.logs ns us k).length + ((b.ls.getD k default).2.length - 0) := by rw [hst, List.length_append, Nat.sub_zero]
              rw [← hl2] at hA'
              refine RoundFix.mk ((k + 1, A')) ?_ ?_ _ rfl (Wk.drop (by (try dsimp only); (try simp only [List.cons_append, List.nil_append]); (repeat (with_reducible exact List.Sublist.refl _)))) ?_
              · dsimp only; omega
              · repeat' (first | exact True.intro | refine And.intro ?_ ?_ | exact congrArg (fun n => Value.slice A'.a n A'.cap) hl2.symm | rfl)
              · exact ⟨by omega, hA'⟩
        · have : k = b.ls.length := by omega
          subst this
          rw [hlen] at *
          repeat' (conv => whnf
                   first
                   | (with_reducible refine NextSt.mk ?_)
                   | (with_reducible refine OnBB.ff ?_)
                   | ((with_reducible apply Cmp.no); · omega)
                   | ((with_reducible apply LoadSt.box); · (repeat (first | exact List.Mem.head _ | with_reducible apply List.mem_append_right | with_reducible apply List.mem_cons_of_mem))))
          conv => whnf
          refine FinSt.new (H := A.hp 70 ((wantI b.logs ns us b.ls.length).flatMap enV)) (R := RowE (wantI b.logs ns us b.ls.length)) ?_ ⟨A, rfl, rfl, hA⟩
          exact (List.Sublist.refl _).append (List.Sublist.cons _ (List.Sublist.refl _))
end Go.Proofs.Ytlbmlimaobkhpaa
