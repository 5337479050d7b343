/- Functions of the reference: what books tell. -/
import Derived.Test.YtlbmlimaobkhpaaHb
import Derived.Test.YtlbmlimaobkhpaaOx
set_option linter.unusedVariables false
set_option linter.unusedSimpArgs false
set_option linter.unusedSectionVars false
/- The reference's books: what they tell. -/
namespace Go.Proofs.Ytlbmlimaobkhpaa
open Go Go.Gv
set_option maxRecDepth 100000
set_option maxHeartbeats 4000000
set_option linter.unusedSimpArgs false
set_option linter.unusedVariables false
end Go.Proofs.Ytlbmlimaobkhpaa
/- The reference's sums. -/
namespace Go.Proofs.Ytlbmlimaobkhpaa
open Go Go.Gv
set_option maxRecDepth 100000
set_option maxHeartbeats 4000000
set_option linter.unusedSimpArgs false
set_option linter.unusedVariables false
theorem f137G (F : Nat → Nat → Nat) (hF : ∀ s b, F s b < 18446744073709551616) (hW : ∀ s b : Nat, s < 18446744073709551616 → b < 256 → IntKind.u64.wrap (((natOp BinOp.xor ((s : Nat) : Int).toNat ((b : Nat) : Int).toNat : Nat) : Int) * 1099511628211) = ((F s b : Nat) : Int)) (l : List En) (a : Option Addr) (c : Nat) (hl : l.length ≤ 1000) (hok : ∀ e ∈ l, enOk e) (h : View) (O : Hp) (hr : Rd h O a (l.flatMap enV)) :
    GSpec Try.prog 137 [.slice a l.length c] h O (Ret O (uN (sumG F l))) := by
  refine GSpec.enter (fn := Try.f137) Try.func137 rfl (by kernel_rfl) ?_
  repeat' (conv => whnf
           first
           | (with_reducible refine NextSt.mk ?_))
  refine LoopSt.fix [3, 4, 5, 6, 7, 8, 9, 10, 11, 12, 13, 14, 15, 16, 17, 18, 19, 20, 21, 22, 23, 24, 25, 26, 27, 28, 29, 30, 31, 32, 33, 34, 35, 36, 37, 38, 39, 40, 41, 42, 43, 44, 45, 46, 47, 48, 49, 50, 51, 52, 53, 54, 55, 56, 57, 58] (fun (k : Nat) => [(3, uN (sumG F (l.take k))), (4, iN k)]) (fun _ => _) (fun k => k ≤ l.length) (fun k => l.length - k) (0) _ (Wk.refl _ _) (rfl) ?_ ?_ ?_
  · repeat' (first | exact True.intro | refine And.intro ?_ ?_ | rfl)
  · exact Nat.zero_le _
  · intro k d2 hk
    dsimp only
    by_cases hkl : k < l.length
    · have hst := sumG_take (F := F) hkl
      have hok1 := hok _ (getD_mem (d := default) hkl)
      have hs0 : sumG F (l.take k) < 18446744073709551616 := foldl_lt hF ((l.take k).flatMap eBs) 14695981039346656037 (by decide)
      generalize sumG F (l.take k) = s0 at *
      obtain ⟨⟨eo, en, eb⟩, hx⟩ : ∃ x, x = l.getD k default := ⟨_, rfl⟩
      rw [← hx] at hst hok1
      obtain ⟨ho1, ho2, hn1, hn2, hb⟩ := hok1
      simp only at ho1 ho2 hn1 hn2 hb
      obtain ⟨eo, rfl⟩ := nat_of ho1
      obtain ⟨en, rfl⟩ := nat_of hn1
      have hb' : List.length (En.body ⟨eo, en, eb⟩) ≤ 1024 := hb
      have hd4 : eb.length / 256 % 256 = eb.length / 256 := Nat.mod_eq_of_lt (by omega)
      repeat' (conv => whnf
               first
               | (((with_reducible apply LoadSt.rdf (g := enV) (s := 3)); (· exact hr); (· exact fun _ => rfl); (· (omega)); (· decide)); rw [← hx])
               | ((refine ToStr.bytes (l := [eo, en, eb.length % 256, eb.length / 256]) (Rd.own0 (List.Mem.head _)) ?_ rfl ?_); (· intro x hx; simp only [List.mem_cons, List.not_mem_nil, or_false] at hx; omega))
               | ((with_reducible apply StrAdd.mk); (· (simp only [List.length_append, List.length_map, List.length_cons, List.length_nil]; omega)))
               | ((with_reducible refine DrawSt.walk [0, 1, 2, 3, 4, 5, 6, 7, 8, 9, 10, 11, 12, 13, 14, 15, 16, 17, 20, 21, 22, 23, 24, 18, 19, 25, 26] mixed ?_ ?_); · decide +kernel)
               | ((with_reducible apply IdxSl.rdg (g := enV) (s := 3)); (· with_reducible assumption); (· exact fun _ => rfl); (· decide); (· rfl); (· with_reducible rfl); (· (omega)); · (omega))
               | (with_reducible refine NextSt.mk ?_)
               | (with_reducible refine OnBB.tt ?_)
               | ((with_reducible apply NW.u8N); (· with_reducible rfl); (· omega))
               | ((with_reducible apply Cmp.yes); · omega)
               | ((with_reducible refine AllocSt.mk ?_); intro _b _hb _hbO)
               | ((with_reducible apply DivSt.quoN); (· with_reducible rfl); (· exact natL _); (· omega))
               | ((with_reducible apply DivSt.remN); (· with_reducible rfl); (· exact natL _); (· omega)))
      conv => whnf
      obtain ⟨T, hT⟩ : ∃ x : Str, x = [eo, en, eb.length % 256, eb.length / 256].map UInt8.ofNat ++ eb := ⟨_, rfl⟩
      have hnb : nb T = eBs ⟨eo, en, eb⟩ := by
        rw [hT, nb_append]
        unfold eBs
        congr 1
        simp only [nb, List.map_cons, List.map_nil, Int.toNat_natCast]
        rw [ofNat8 (by omega), ofNat8 (by omega), ofNat8 (by omega), ofNat8 (by omega), hd4]
      have hTl : T.length = (eBs ⟨eo, en, eb⟩).length := by rw [← hnb, nb_len]
      have hTb : T.length ≤ 2000 := by rw [hT]; simp only [List.length_append, List.length_map, List.length_cons, List.length_nil]; omega
      refine LoopSt.fix [3, 7, 46, 47, 48, 49, 50, 51, 52, 53, 54, 55, 56, 57, 58] (fun (j : Nat) => [(3, uN (((eBs ⟨eo, en, eb⟩).take j).foldl F s0)), (7, iN j)]) (fun _ => _) (fun j => j ≤ T.length) (fun j => T.length - j) (0) _ (Wk.refl _ _) (rfl) ?_ ?_ ?_
      · repeat' (first | exact True.intro | refine And.intro ?_ ?_ | rfl)
      · exact Nat.zero_le _
      · intro j d3 hj
        dsimp only
        have hjs := foldl_lt hF ((eBs ⟨eo, en, eb⟩).take j) s0 hs0
        by_cases hjl : j < T.length
        · have hjl2 : j < (eBs ⟨eo, en, eb⟩).length := by omega
          have hbj : (eBs ⟨eo, en, eb⟩).getD j 0 < 256 := by
            rw [← hnb]; exact nb_byt _ _ (getD_mem' (by rw [nb_len]; exact hjl))
          have hstj : ((eBs ⟨eo, en, eb⟩).take (j + 1)).foldl F s0 = F (((eBs ⟨eo, en, eb⟩).take j).foldl F s0) ((eBs ⟨eo, en, eb⟩).getD j 0) := by
            rw [take_succ (d := 0) hjl2, List.foldl_append]; rfl
          generalize ((eBs ⟨eo, en, eb⟩).take j).foldl F s0 = sj at *
          have hlt : ((j : Nat) : Int) < ((([eo, en, eb.length % 256, eb.length / 256].map UInt8.ofNat ++ eb).length : Nat) : Int) := by rw [← hT]; omega
          have hw1 := hW sj ((eBs ⟨eo, en, eb⟩).getD j 0) hjs hbj
          have hxb : sj ^^^ ((eBs ⟨eo, en, eb⟩).getD j 0) < 18446744073709551616 := Nat.xor_lt_two_pow (n := 64) hjs (Nat.lt_trans hbj (by decide))
          repeat' (conv => whnf
                   first
                   | (((with_reducible apply Cmp.yes); · exact hlt))
                   | ((refine StrIdx.m (l := [eo, en, eb.length % 256, eb.length / 256].map UInt8.ofNat ++ eb) (j := j) rfl (by rw [← hT]; exact hjl) ?_); rw [← hT, hnb])
                   | ((refine NW.u64w ?_); rw [hw1, ← hstj])
                   | (with_reducible refine NextSt.mk ?_)
                   | (with_reducible refine OnBB.tt ?_)
                   | ((with_reducible apply NW.addN); (· with_reducible rfl); (· exact natL _); (· omega))
                   | ((with_reducible apply NW.u64N); (· with_reducible rfl); (· omega))
                   | ((with_reducible apply Bits.u64); (· simp); · omega))
          refine RoundFix.mk (j + 1) ?_ ?_ _ rfl (Wk.drop (by (try dsimp only); (try simp only [List.cons_append, List.nil_append]); (repeat (with_reducible exact List.Sublist.refl _)))) ?_
          · omega
          · repeat' (first | exact True.intro | refine And.intro ?_ ?_ | rfl)
          · omega
        · have hlt : ¬ ((j : Nat) : Int) < ((([eo, en, eb.length % 256, eb.length / 256].map UInt8.ofNat ++ eb).length : Nat) : Int) := by rw [← hT]; omega
          rw [List.take_of_length_le (by omega), ← hst]
          repeat' (conv => whnf
                   first
                   | (((with_reducible apply Cmp.no); · exact hlt))
                   | (with_reducible refine NextSt.mk ?_)
                   | (with_reducible refine OnBB.ff ?_)
                   | ((with_reducible apply NW.addN); (· with_reducible rfl); (· exact natL _); (· omega)))
          refine RoundFix.mk (k + 1) ?_ ?_ _ rfl (Wk.drop (by (try dsimp only); (try simp only [List.cons_append, List.nil_append]); (repeat (first | with_reducible exact List.Sublist.refl _ | with_reducible apply List.Sublist.cons)))) ?_
          · omega
          · repeat' (first | exact True.intro | refine And.intro ?_ ?_ | rfl)
          · omega
    · have : k = l.length := by omega
      subst this
      rw [List.take_length]
      repeat' (conv => whnf
               first
               | (with_reducible refine NextSt.mk ?_)
               | (with_reducible refine OnBB.ff ?_)
               | ((with_reducible apply Cmp.no); · omega))
      conv => whnf
      refine FinSt.ret (by (try dsimp only); (try simp only [List.cons_append, List.nil_append]); (repeat (with_reducible exact List.Sublist.refl _))) ?_
      rfl
theorem fs1_wrap (s b : Nat) : IntKind.u64.wrap (((natOp BinOp.xor ((s : Nat) : Int).toNat ((b : Nat) : Int).toNat : Nat) : Int) * 1099511628211) = ((fs1 s b : Nat) : Int) := by
  have e : IntKind.u64.wrap (((s ^^^ b : Nat) : Int) * 1099511628211) = ((fs1 s b : Nat) : Int) := by
    rw [IntKind.wrap_u64]
    unfold fs1
    omega
  exact e
theorem f137 (l : List En) (a : Option Addr) (c : Nat) (hl : l.length ≤ 1000) (hok : ∀ e ∈ l, enOk e) (h : View) (O : Hp) (hr : Rd h O a (l.flatMap enV)) :
    GSpec Try.prog 137 [.slice a l.length c] h O (Ret O (uN (sumL l))) := f137G fs1 fs1_lt (fun s b _ _ => fs1_wrap s b) l a c hl hok h O hr
end Go.Proofs.Ytlbmlimaobkhpaa
/- The reference's tallies. -/
namespace Go.Proofs.Ytlbmlimaobkhpaa
open Go Go.Gv
set_option maxRecDepth 100000
set_option maxHeartbeats 4000000
set_option linter.unusedSimpArgs false
set_option linter.unusedVariables false
end Go.Proofs.Ytlbmlimaobkhpaa
/- The reference's books: what they want. -/
namespace Go.Proofs.Ytlbmlimaobkhpaa
open Go Go.Gv
set_option maxRecDepth 100000
set_option maxHeartbeats 4000000
set_option linter.unusedSimpArgs false
set_option linter.unusedVariables false
end Go.Proofs.Ytlbmlimaobkhpaa
