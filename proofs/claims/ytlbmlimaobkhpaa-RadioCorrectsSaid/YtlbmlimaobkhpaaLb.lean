/- Wrong bytes: the plain law and the walk. -/
import Derived.Test.YtlbmlimaobkhpaaLa
set_option linter.unusedVariables false
set_option linter.unusedSimpArgs false
set_option linter.unusedSectionVars false
/- What is sent, and what comes. No program in sight. -/
namespace Go.Proofs.Ytlbmlimaobkhpaa
open Go Go.Gv
set_option linter.unusedSimpArgs false
set_option linter.unusedVariables false
theorem map_toNat {w : List Nat} (h : byt w) : (w.map UInt8.ofNat).map UInt8.toNat = w := map_ofNat h
theorem nb_hd4 {f : Fr} (h : frOk f) : nb (wordB f) = hd4 f ++ nb f.body := by
  unfold wordB
  rw [nb_app, map_ofNat (hd4_byt h)]
theorem sent_len (f : Fr) : (sent f).length = 10 + f.body.length := by
  unfold sent
  rw [List.length_append, wordB_len, ckB_len]; omega
theorem nb_sent (f : Fr) : nb (sent f) = nb (wordB f) ++ chkV (nb (wordB f)) := by
  unfold sent
  rw [nb_app, nb_ckB]
theorem sent_cw (f : Fr) : cw (nb (sent f)) := by
  rw [nb_sent]; exact chkV_cw (nb_byt _)
theorem frOf_app {f : Fr} (h : frOk f) {c : List Nat} (hc : c.length = 6) : frOf (hd4 f ++ nb f.body ++ c) = f := by
  obtain ⟨a1, a2, a3, a4, a5, a6, a7, a8, a9, a10, a11⟩ := h
  obtain ⟨o, n, p, q, b⟩ := f
  simp only at a1 a2 a3 a4 a5 a6 a7 a8 a9 a10 a11
  have e6 : (nb b).map UInt8.ofNat = b := by
    unfold nb
    rw [List.map_map]
    conv => rhs; rw [← List.map_id b]
    exact List.map_congr_left fun x _ => by simp
  have e7 : ((o.toNat :: n.toNat :: p.toNat :: q.toNat :: (nb b ++ c)).take ((o.toNat :: n.toNat :: p.toNat :: q.toNat :: (nb b ++ c)).length - 6)).drop 4 = nb b := by
    simp only [List.length_cons, List.length_append, hc]
    rw [show (nb b).length + 6 + 1 + 1 + 1 + 1 - 6 = (nb b).length + 1 + 1 + 1 + 1 by omega]
    simp only [List.take_succ_cons, List.drop_succ_cons, List.drop_zero, List.take_left]
  show frOf (o.toNat :: n.toNat :: p.toNat :: q.toNat :: (nb b ++ c)) = _
  unfold frOf
  rw [e7, e6]
  show (⟨(o.toNat : Int), (n.toNat : Int), (p.toNat : Int), (q.toNat : Int), b⟩ : Fr) = _
  congr 1 <;> omega
theorem frOf_sent {f : Fr} (h : frOk f) : frOf (nb (sent f)) = f := by
  rw [nb_sent, nb_hd4 h]
  exact frOf_app h (chkV_len _)
theorem sent_inj {f g : Fr} (hf : frOk f) (hg : frOk g) (h : sent f = sent g) : f = g := by
  rw [← frOf_sent hf, ← frOf_sent hg, h]
theorem far_sent {f g : Fr} (hf : frOk f) (hg : frOk g) (hl : (sent f).length = (sent g).length) (hne : f ≠ g) : 7 ≤ ap (nb (sent f)) (nb (sent g)) := by
  rcases Nat.lt_or_ge (ap (nb (sent f)) (nb (sent g))) 7 with h | h
  · exfalso
    have h1 : (sent f).length ≤ 42 := by rw [sent_len]; have := hf.2.2.2.2.2.2.2.2.1; omega
    have := far (nb_byt _) (nb_byt _) (by rw [nb_len, nb_len, hl]) (by rw [nb_len]; omega) (sent_cw f) (sent_cw g) (by omega)
    exact hne (sent_inj hf hg (nb_inj this))
  · exact h
/-- At most two wrong bytes are corrected. -/
theorem dec_good {f : Fr} (hf : frOk f) {t : List UInt8} (hl : t.length = (sent f).length) (h2 : ap (nb t) (nb (sent f)) ≤ 2) : decV t = (f, ap (nb t) (nb (sent f)), 0) := by
  have h1 : (sent f).length ≤ 42 ∧ 10 ≤ (sent f).length := by rw [sent_len]; have := hf.2.2.2.2.2.2.2.2.1; omega
  have hg : good (nb t) (nb (sent f)) := ⟨by rw [nb_len, nb_len, hl], nb_byt _, sent_cw f, by rw [ap_comm]; exact h2⟩
  have hw := wordF_of (nb_byt t) (by rw [nb_len]; omega) hg
  rw [decV_ok ⟨by omega, by omega⟩ hw (by rw [frOf_sent hf]; exact hf), frOf_sent hf, ap_comm]
/-- Three or four are found. -/
theorem dec_bad {f : Fr} (hf : frOk f) {t : List UInt8} (hl : t.length = (sent f).length) (h3 : 3 ≤ ap (nb t) (nb (sent f))) (h4 : ap (nb t) (nb (sent f)) ≤ 4) : decV t = (fr0, 0, 91) := by
  have h1 : (sent f).length ≤ 42 ∧ 10 ≤ (sent f).length := by rw [sent_len]; have := hf.2.2.2.2.2.2.2.2.1; omega
  cases hw : wordF (nb t) with
  | none => exact decV_none hw
  | some w =>
    exfalso
    have hg := wordF_good (nb_byt t) hw
    have ht := ap_tri w (nb t) (nb (sent f)) (by rw [hg.len]) (by rw [nb_len, nb_len, hl])
    have hn := hg.near
    have := far hg.byt (nb_byt _) (by rw [hg.len, nb_len, nb_len, hl]) (by rw [hg.len, nb_len]; omega) hg.cw (sent_cw f) (by omega)
    rw [this, ap_comm] at hn
    omega
/-- What is read is what was sent but for two bytes. -/
theorem dec_some {t : List UInt8} : decV t = (fr0, 0, 91) ∨ ∃ f, frOk f ∧ decV t = (f, ap (nb (sent f)) (nb t), 0) ∧ (sent f).length = t.length ∧ ap (nb (sent f)) (nb t) ≤ 2 := by
  by_cases hl : 10 ≤ t.length ∧ t.length ≤ 42
  · cases hw : wordF (nb t) with
    | none => exact .inl (decV_none hw)
    | some w =>
      by_cases hf : frOk (frOf w)
      · have hg := wordF_good (nb_byt t) hw
        have hlw : w.length = t.length := by rw [hg.len, nb_len]
        have hb : (frOf w).body.length = w.length - 10 := by
          unfold frOf
          simp only [List.length_map, List.length_drop, List.length_take]; omega
        have e1 : hd4 (frOf w) = w.take 4 := by
          obtain ⟨a, b, c, d, r, rfl⟩ : ∃ a b c d r, w = a :: b :: c :: d :: r := by
            match w, hlw with
            | [], h => simp at h; omega
            | [_], h => simp at h; omega
            | [_, _], h => simp at h; omega
            | [_, _, _], h => simp at h; omega
            | a :: b :: c :: d :: r, _ => exact ⟨a, b, c, d, r, rfl⟩
          unfold frOf hd4
          simp
        have e2 : nb (frOf w).body = (w.take (w.length - 6)).drop 4 := by
          unfold frOf
          exact map_ofNat ((hg.byt.take _).drop _)
        have e3 : nb (wordB (frOf w)) = w.take (w.length - 6) := by
          rw [nb_hd4 hf, e1, e2]
          conv => rhs; rw [← List.take_append_drop 4 (w.take (w.length - 6))]
          rw [List.take_take, show min 4 (w.length - 6) = 4 by omega]
        have hsl : (sent (frOf w)).length = t.length := by rw [sent_len, hb]; omega
        have e4 : nb (sent (frOf w)) = w := by
          refine far (nb_byt _) hg.byt (by rw [nb_len, hsl, hlw]) (by rw [nb_len, hsl]; omega) (sent_cw _) hg.cw ?_
          rw [nb_sent, e3]
          have hsplit : w = w.take (w.length - 6) ++ w.drop (w.length - 6) := (List.take_append_drop _ _).symm
          have key : ∀ (u a b : List Nat), ap (u ++ a) (u ++ b) = ap a b := by
            intro u a b
            induction u with
            | nil => rfl
            | cons x u ih => show (if x = x then 0 else 1) + ap (u ++ a) (u ++ b) = _; rw [if_pos rfl, ih]; omega
          conv => lhs; arg 2; rw [hsplit]
          rw [key]
          have := ap_le (chkV (w.take (w.length - 6))) (w.drop (w.length - 6))
          rw [chkV_len] at this
          exact this
        have hn := hg.near
        refine .inr ⟨frOf w, hf, ?_, hsl, by rw [e4]; exact hn⟩
        rw [decV_ok hl hw hf, e4]
      · exact .inl (decV_no hw hf)
  · exact .inl (decV_bad hl)
end Go.Proofs.Ytlbmlimaobkhpaa
/- The law of wrong bytes: the walk. -/
namespace Go.Proofs.Ytlbmlimaobkhpaa
open Go Go.Gv
set_option maxRecDepth 100000
set_option maxHeartbeats 4000000
set_option linter.unusedSimpArgs false
set_option linter.unusedVariables false

/-- What garbled answers. -/
def GarbR (s : List UInt8) (m : Nat) (v : Value) : Prop := ∃ t : List UInt8, t.length = s.length ∧ ap (nb t) (nb s) ≤ m ∧ v = .tuple ⟨[sV t, iN (ap (nb t) (nb s))]⟩
theorem f33 (s : List UInt8) (at_ by_ : List Nat) (a1 a2 : Option Addr) (c1 c2 : Nat) (hs : s.length < 1000000) (hat : at_.length ≤ 9223372036854775807) (hby : by_.length ≤ 9223372036854775807) (ha : byt at_) (hb : byt by_) (h : View) (O : Hp)
    (hr1 : Rd h O a1 (at_.map bN)) (hr2 : Rd h O a2 (by_.map bN)) : GSpec Try.prog 33 [sV s, .slice a1 at_.length c1, .slice a2 by_.length c2] h O (RetR O (GarbR s (min at_.length by_.length))) := by
  have hnl := nb_len s
  refine GSpec.enter (fn := Try.f33) Try.func33 rfl (by kernel_rfl) ?_
  repeat' (conv => whnf
           first
           | (apply BytesSt.nat; intro bb cap kk hcap)
           | (with_reducible refine NextSt.mk ?_))
  refine LoopSt.fix [9, 14, 15, 16, 17, 18, 19, 20, 21, 22, 23, 24, 25, 26, 27, 28, 29, 30, 31, 32, 33, 34, 35, 36, 37, 38, 39, 40, 41, 42, 43, 44, 45] (fun ((k, w) : Nat × List Nat) => [(9, iN k)]) (fun (k, w) => (bb, .cells ⟨(w ++ List.replicate kk 0).map bN⟩ 5 (cap, cap + 1)) :: O) (fun (k, w) => k ≤ min at_.length by_.length ∧ w.length = s.length ∧ byt w ∧ ap w (nb s) ≤ k) (fun (k, w) => min at_.length by_.length - k) ((0, nb s)) _ (Wk.refl _ _) (rfl) ?_ ?_ ?_
  · repeat' (first | exact True.intro | refine And.intro ?_ ?_ | rfl | exact congrArg (Value.int _) (by omega) | exact congrArg (fun n => Value.slice _ n _) (by (try dsimp only); omega))
  · exact ⟨Nat.zero_le _, hnl, nb_byt s, by rw [ap_self]; exact Nat.le_refl _⟩
  · rintro ⟨k, w⟩ d ⟨hk, hwl, hwb, hap⟩
    dsimp only at hk hwl hwb hap ⊢
    have hwl2 : (w ++ List.replicate kk 0).length = s.length + kk := by rw [List.length_append, hwl, List.length_replicate]
    by_cases hkm : k < min at_.length by_.length
    · by_cases hs0 : 0 < s.length
      · have b1 := ha.get k
        have b2 := hb.get k
        have hm : at_.getD k 0 % s.length < s.length := Nat.mod_lt _ hs0
        have b3 := hwb.get (at_.getD k 0 % s.length)
        have hg : (w ++ List.replicate kk 0).getD (at_.getD k 0 % s.length) 0 = w.getD (at_.getD k 0 % s.length) 0 := getD_app (by omega)
        repeat' (conv => whnf
                 first
                 | ((with_reducible refine DrawSt.walk [0, 1, 2, 3, 4, 5, 6, 7, 8, 9, 10, 11, 12, 13, 14, 15, 16, 17] mixed ?_ ?_); · decide +kernel)
                 | (with_reducible refine NextSt.mk ?_)
                 | (with_reducible refine OnBB.tt ?_)
                 | ((with_reducible apply NW.addN); (· first | with_reducible rfl | exact natL _); (· first | with_reducible rfl | exact natL _); (· omega))
                 | ((with_reducible apply NW.i64N); (· first | with_reducible rfl | exact natL _); (· omega))
                 | ((with_reducible apply Cmp.yes); · first | omega | (with_reducible assumption) | (with_reducible rfl))
                 | ((with_reducible apply LoadSt.ownN); (· (repeat (first | exact List.Mem.head _ | with_reducible apply List.mem_append_right | with_reducible apply List.mem_cons_of_mem))); (· (first | exact Nat.zero_add _ | with_reducible rfl | omega | (show _ + _ * 1 = _; omega))); · (first | omega | (simp only [List.length_map, List.length_append, List.length_cons, List.length_nil, List.length_take, List.length_drop, List.length_replicate, List.length_set] at *; omega)))
                 | ((with_reducible apply LoadSt.rdN); (· (repeat (first | with_reducible assumption | (with_reducible apply Buf.rd; with_reducible assumption) | (with_reducible apply Rd.appL; with_reducible assumption) | (with_reducible apply Rd.appL; with_reducible apply Buf.rd; with_reducible assumption) | with_reducible apply Rd.cons | with_reducible apply Rd.appR))); · (first | omega | (simp only [List.length_map, List.length_append, List.length_cons, List.length_nil, List.length_take, List.length_drop, List.length_replicate, List.length_set] at *; omega)))
                 | ((with_reducible apply StoreSt.mapd); (· (repeat (first | exact Upd.hd | apply Upd.tl | apply Upd.app))); (· (first | exact Nat.zero_add _ | with_reducible rfl | omega | (show _ + _ * 1 = _; omega))); (· rfl); (· rfl); (· (first | omega | (simp only [List.length_map, List.length_append, List.length_cons, List.length_nil, List.length_take, List.length_drop, List.length_replicate, List.length_set] at *; omega))); · (first | exact Or.inl (Nat.le_refl _) | omega))
                 | ((with_reducible apply Bits.xor8N); (· first | with_reducible rfl | exact natL _); (· first | with_reducible rfl | exact natL _); (· omega))
                 | ((with_reducible apply DivSt.remN); (· first | with_reducible rfl | exact natL _); (· first | with_reducible rfl | exact natL _); (· omega))
                 | ((with_reducible apply IdxSl.own1); (· rfl); (· first | with_reducible rfl | exact natL _); · (first | omega | (simp only [List.length_map, List.length_append, List.length_cons, List.length_nil, List.length_take, List.length_drop, List.length_replicate, List.length_set] at *; omega)))
                 | ((with_reducible apply IdxSl.rd1); (· with_reducible assumption); (· rfl); (· first | with_reducible rfl | exact natL _); (· (first | omega | (simp only [List.length_map, List.length_append, List.length_cons, List.length_nil, List.length_take, List.length_drop, List.length_replicate, List.length_set] at *; omega))); · (first | omega | (simp only [List.length_map, List.length_append, List.length_cons, List.length_nil, List.length_take, List.length_drop, List.length_replicate, List.length_set] at *; omega))))
        rw [hg, List.set_append_left _ _ (by omega)]
        refine RoundFix.mk ((k + 1, w.set (at_.getD k 0 % s.length) (w.getD (at_.getD k 0 % s.length) 0 ^^^ by_.getD k 0))) ?_ ?_ _ rfl (Wk.drop (by (try dsimp only); (try simp only [List.cons_append, List.nil_append]); (repeat (first | with_reducible exact List.Sublist.refl _ | with_reducible exact List.nil_sublist _ | with_reducible apply List.Sublist.cons_cons | with_reducible apply sub_app | apply List.Sublist.cons_cons | apply sub_app | with_reducible apply List.Sublist.cons | with_reducible apply sub_skip)))) ?_
        · dsimp only; omega
        · repeat' (first | exact True.intro | refine And.intro ?_ ?_ | rfl | exact congrArg (Value.int _) (by omega) | exact congrArg (fun n => Value.slice _ n _) (by (try dsimp only); omega))
        · exact ⟨by omega, by rw [List.length_set]; exact hwl, hwb.set _ (xor_lt b3 b2), Nat.le_trans (ap_set _ _ _ _ (by omega)) (by omega)⟩
      · repeat' (conv => whnf
                 first
                 | (with_reducible refine NextSt.mk ?_)
                 | (with_reducible refine OnBB.tt ?_)
                 | (with_reducible refine OnBB.ff ?_)
                 | ((with_reducible apply NW.addN); (· first | with_reducible rfl | exact natL _); (· first | with_reducible rfl | exact natL _); (· omega))
                 | ((with_reducible apply Cmp.yes); · first | omega | (with_reducible assumption) | (with_reducible rfl))
                 | ((with_reducible apply Cmp.no); · first | omega | (with_reducible assumption)))
        refine RoundFix.mk ((k + 1, w)) ?_ ?_ _ rfl (Wk.drop (by (try dsimp only); (try simp only [List.cons_append, List.nil_append]); (repeat (first | with_reducible exact List.Sublist.refl _ | with_reducible exact List.nil_sublist _ | with_reducible apply List.Sublist.cons_cons | with_reducible apply sub_app | apply List.Sublist.cons_cons | apply sub_app | with_reducible apply List.Sublist.cons | with_reducible apply sub_skip)))) ?_
        · dsimp only; omega
        · repeat' (first | exact True.intro | refine And.intro ?_ ?_ | rfl | exact congrArg (Value.int _) (by omega) | exact congrArg (fun n => Value.slice _ n _) (by (try dsimp only); omega))
        · exact ⟨by omega, hwl, hwb, Nat.le_succ_of_le hap⟩
    · have hfin : GarbR s (min at_.length by_.length) (.tuple ⟨[sV (w.map UInt8.ofNat), iN (ap w (nb s))]⟩) := by
        refine ⟨w.map UInt8.ofNat, by rw [List.length_map, hwl], ?_, ?_⟩
        · rw [map_ofNat hwb]; exact Nat.le_trans hap hk
        · rw [map_ofNat hwb]
      repeat' (conv => whnf
               first
               | (with_reducible refine NextSt.mk ?_)
               | (with_reducible refine OnBB.tt ?_)
               | (with_reducible refine OnBB.ff ?_)
               | ((with_reducible apply Cmp.no); · first | omega | (with_reducible assumption))
               | ((with_reducible refine Cmp.mk ?_ ?_) <;> intro _hc))
      all_goals
        (try (conv => whnf))
        refine LoopSt.fix [10, 11, 46, 47, 48, 49, 50, 51, 52, 53, 54, 55, 56, 57, 58, 59, 60, 61] (fun (k : Nat) => [(10, iN (ap (w.take k) ((nb s).take k))), (11, iN k)]) (fun _ => _) (fun k => k ≤ s.length) (fun k => s.length - k) (0) _ (Wk.refl _ _) (rfl) ?_ ?_ ?_
        · repeat' (first | exact True.intro | refine And.intro ?_ ?_ | rfl | exact congrArg (Value.int _) (by omega) | exact congrArg (fun n => Value.slice _ n _) (by (try dsimp only); omega))
        · exact Nat.zero_le _
        · intro k d hk
          have h1 := ap_le (w.take k) ((nb s).take k)
          rw [List.length_take] at h1
          by_cases hks : k < s.length
          · have h4 := ap_take (u := w) (v := nb s) (k := k) (by omega) (by omega)
            have hg : (w ++ List.replicate kk 0).getD k 0 = w.getD k 0 := getD_app (by omega)
            by_cases he : w.getD k 0 = (nb s).getD k 0
            · rw [if_pos he] at h4
              repeat' (conv => whnf
                       first
                       | (((with_reducible apply LoadSt.ownN); (· (repeat (first | exact List.Mem.head _ | with_reducible apply List.mem_append_right | with_reducible apply List.mem_cons_of_mem))); (· (first | exact Nat.zero_add _ | with_reducible rfl | omega | (show _ + _ * 1 = _; omega))); (· (first | omega | (simp only [List.length_map, List.length_append, List.length_cons, List.length_nil, List.length_take, List.length_drop, List.length_replicate, List.length_set] at *; omega))); rw [hg]))
                       | ((with_reducible refine DrawSt.walk [0, 1, 2, 3, 4, 5, 6, 7] mixed ?_ ?_); · decide +kernel)
                       | (with_reducible refine NextSt.mk ?_)
                       | (with_reducible refine OnBB.tt ?_)
                       | (with_reducible refine OnBB.ff ?_)
                       | ((with_reducible apply NW.addN); (· first | with_reducible rfl | exact natL _); (· first | with_reducible rfl | exact natL _); (· omega))
                       | ((with_reducible apply Cmp.yes); · first | omega | (with_reducible assumption) | (with_reducible rfl))
                       | ((with_reducible apply Cmp.no); · first | omega | (with_reducible assumption))
                       | ((with_reducible apply StrIdx.m); (· first | with_reducible rfl | exact natL _); · omega)
                       | ((with_reducible apply IdxSl.own1); (· rfl); (· first | with_reducible rfl | exact natL _); · (first | omega | (simp only [List.length_map, List.length_append, List.length_cons, List.length_nil, List.length_take, List.length_drop, List.length_replicate, List.length_set] at *; omega))))
              refine RoundFix.mk (k + 1) ?_ ?_ _ rfl (Wk.drop (by (try dsimp only); (try simp only [List.cons_append, List.nil_append]); (repeat (first | with_reducible exact List.Sublist.refl _ | with_reducible exact List.nil_sublist _ | with_reducible apply List.Sublist.cons_cons | with_reducible apply sub_app | apply List.Sublist.cons_cons | apply sub_app | with_reducible apply List.Sublist.cons | with_reducible apply sub_skip)))) ?_
              · omega
              · repeat' (first | exact True.intro | refine And.intro ?_ ?_ | exact congrArg iN h4.symm | rfl | exact congrArg (Value.int _) (by omega) | exact congrArg (fun n => Value.slice _ n _) (by (try dsimp only); omega))
              · omega
            · rw [if_neg he] at h4
              repeat' (conv => whnf
                       first
                       | (((with_reducible apply LoadSt.ownN); (· (repeat (first | exact List.Mem.head _ | with_reducible apply List.mem_append_right | with_reducible apply List.mem_cons_of_mem))); (· (first | exact Nat.zero_add _ | with_reducible rfl | omega | (show _ + _ * 1 = _; omega))); (· (first | omega | (simp only [List.length_map, List.length_append, List.length_cons, List.length_nil, List.length_take, List.length_drop, List.length_replicate, List.length_set] at *; omega))); rw [hg]))
                       | ((with_reducible refine DrawSt.walk [0, 1, 2, 3, 4, 5, 6, 7] mixed ?_ ?_); · decide +kernel)
                       | (with_reducible refine NextSt.mk ?_)
                       | (with_reducible refine OnBB.tt ?_)
                       | ((with_reducible apply NW.addN); (· first | with_reducible rfl | exact natL _); (· first | with_reducible rfl | exact natL _); (· omega))
                       | ((with_reducible apply Cmp.yes); · first | omega | (with_reducible assumption) | (with_reducible rfl))
                       | ((with_reducible apply StrIdx.m); (· first | with_reducible rfl | exact natL _); · omega)
                       | ((with_reducible apply IdxSl.own1); (· rfl); (· first | with_reducible rfl | exact natL _); · (first | omega | (simp only [List.length_map, List.length_append, List.length_cons, List.length_nil, List.length_take, List.length_drop, List.length_replicate, List.length_set] at *; omega))))
              refine RoundFix.mk (k + 1) ?_ ?_ _ rfl (Wk.drop (by (try dsimp only); (try simp only [List.cons_append, List.nil_append]); (repeat (first | with_reducible exact List.Sublist.refl _ | with_reducible exact List.nil_sublist _ | with_reducible apply List.Sublist.cons_cons | with_reducible apply sub_app | apply List.Sublist.cons_cons | apply sub_app | with_reducible apply List.Sublist.cons | with_reducible apply sub_skip)))) ?_
              · omega
              · repeat' (first | exact True.intro | refine And.intro ?_ ?_ | exact congrArg iN h4.symm | rfl | exact congrArg (Value.int _) (by omega) | exact congrArg (fun n => Value.slice _ n _) (by (try dsimp only); omega))
              · omega
          · have : k = s.length := by omega
            subst this
            rw [List.take_of_length_le (by omega), List.take_of_length_le (by omega)]
            repeat' (conv => whnf
                     first
                     | (refine ToStr.bytes (l := w) (Rd.pre (by (repeat (first | exact List.Mem.head _ | with_reducible apply List.mem_append_right | with_reducible apply List.mem_cons_of_mem)))) hwb hwl ?_)
                     | (with_reducible refine NextSt.mk ?_)
                     | (with_reducible refine OnBB.ff ?_)
                     | ((with_reducible apply Cmp.no); · first | omega | (with_reducible assumption)))
            conv => whnf
            exact .mk _ _ (Wk.drop (by (try dsimp only); (try simp only [List.cons_append, List.nil_append]); (repeat (first | with_reducible exact List.Sublist.refl _ | with_reducible exact List.nil_sublist _ | with_reducible apply List.Sublist.cons_cons | with_reducible apply sub_app | apply List.Sublist.cons_cons | apply sub_app | with_reducible apply List.Sublist.cons | with_reducible apply sub_skip)))) ⟨rfl, hfin⟩
theorem apartV_eq {s t : List UInt8} (h : s.length = t.length) : apartV s t = (ap (nb s) (nb t), true) := if_pos h
theorem fr0W : frW fr0 := ⟨⟨by decide, by decide⟩, ⟨by decide, by decide⟩, ⟨by decide, by decide⟩, ⟨by decide, by decide⟩, by decide⟩
theorem frOk.w {f : Fr} (h : frOk f) : frW f := by
  obtain ⟨a1, a2, a3, a4, a5, a6, a7, a8, a9, a10, a11⟩ := h
  exact ⟨⟨by omega, by omega⟩, ⟨by omega, by omega⟩, ⟨by omega, by omega⟩, ⟨by omega, by omega⟩, by omega⟩
theorem f6 (x y : Fr) (at_ by_ : List Nat) (a1 a2 : Option Addr) (c1 c2 : Nat) (hx : i64 x.office ∧ i64 x.no ∧ i64 x.part ∧ i64 x.parts) (hy : i64 y.office ∧ i64 y.no ∧ i64 y.part ∧ i64 y.parts) (hxb : x.body.length ≤ 9223372036854775807) (hyb : y.body.length ≤ 9223372036854775807)
    (hat : at_.length ≤ 9223372036854775807) (hby : by_.length ≤ 9223372036854775807) (ha : byt at_) (hb : byt by_) (h : View) (O : Hp) (hr1 : Rd h O a1 (at_.map bN)) (hr2 : Rd h O a2 (by_.map bN)) :
    GSpec Try.prog 6 [.agg ⟨frV x⟩, .agg ⟨frV y⟩, .slice a1 at_.length c1, .slice a2 by_.length c2] h O (Ret O (.bool true)) := by
  have e18x := fun h O => f18L x hxb h O
  have e18y := fun h O => f18L y hyb h O
  by_cases hxo : frOk x
  · rw [show encV x = (sent x, 0) from if_pos hxo] at e18x
    have hsl := sent_len x
    have hxl : x.body.length ≤ 32 := hxo.2.2.2.2.2.2.2.2.1
    by_cases hyo : frOk y
    · rw [show encV y = (sent y, 0) from if_pos hyo] at e18y
      have hyl : y.body.length ≤ 32 := hyo.2.2.2.2.2.2.2.2.1
      have hsly := sent_len y
      by_cases hxy : x = y
      · subst hxy
        refine GSpec.enter (fn := Try.f6) Try.func6 rfl (by kernel_rfl) ?_
        repeat' (conv => whnf
                 first
                 | ((with_reducible refine CallSt.rd (f := 17) (X := .bool true) ?_ ?_); (· exact f17 _ _))
                 | ((with_reducible refine CallSt.rd (f := 18) (X := strE (sent x, 0)) ?_ ?_); (· apply GSpec.cast (sp := e18x _ _); (repeat' (first | with_reducible rfl | refine congrArg₂ List.cons ?_ ?_ | exact iN_lit _ | rfl))))
                 | (((apply CallSt.rel (f33 (sent x) at_ by_ a1 a2 c1 c2 (by omega) hat hby ha hb _ _ (by (repeat (first | with_reducible assumption | (with_reducible apply Buf.rd; with_reducible assumption) | (with_reducible apply Rd.appL; with_reducible assumption) | (with_reducible apply Rd.appL; with_reducible apply Buf.rd; with_reducible assumption) | with_reducible apply Rd.cons | with_reducible apply Rd.appR))) (by (repeat (first | with_reducible assumption | (with_reducible apply Buf.rd; with_reducible assumption) | (with_reducible apply Rd.appL; with_reducible assumption) | (with_reducible apply Rd.appL; with_reducible apply Buf.rd; with_reducible assumption) | with_reducible apply Rd.cons | with_reducible apply Rd.appR))))); rintro _ ⟨t, htl, htm, rfl⟩))
                 | (with_reducible refine NextSt.mk ?_)
                 | (with_reducible refine OnBB.tt ?_)
                 | (with_reducible refine OnBB.ff ?_)
                 | ((with_reducible apply Cmp.no); · first | omega | (with_reducible assumption))
                 | ((with_reducible apply LoadSt.boxAgg); · (repeat (first | exact List.Mem.head _ | with_reducible apply List.mem_append_right | with_reducible apply List.mem_cons_of_mem)))
                 | ((with_reducible refine AllocSt.mk ?_); intro _b _hb _hbO))
        have htl2 : t.length ≤ 42 := by omega
        by_cases hm2 : ap (nb t) (nb (sent x)) ≤ 2
        · have hdec := dec_good hxo htl hm2
          have hapx : apartV (sent x) t = (ap (nb t) (nb (sent x)), true) := by rw [apartV_eq htl.symm, ap_comm]
          generalize ap (nb t) (nb (sent x)) = m at *
          repeat' (conv => whnf
                   first
                   | ((with_reducible refine CallSt.rd (f := 20) (X := decR (x, m, 0)) ?_ ?_); (· rw [← hdec]; exact f20 t (by omega) _ _))
                   | ((with_reducible refine CallSt.rd (f := 18) (X := strE (sent x, 0)) ?_ ?_); (· apply GSpec.cast (sp := e18x _ _); (repeat' (first | with_reducible rfl | refine congrArg₂ List.cons ?_ ?_ | exact iN_lit _ | rfl))))
                   | ((with_reducible refine CallSt.rd (f := 31) (X := nbV (m, true)) ?_ ?_); (· rw [← hapx]; (apply GSpec.cast (sp := f31 (sent x) t (by omega) (by omega) _ _); (repeat' (first | with_reducible rfl | refine congrArg₂ List.cons ?_ ?_ | exact iN_lit _ | rfl)))))
                   | ((with_reducible refine CallSt.rd (f := 18) (X := strE (sent x, 0)) ?_ ?_); (· apply GSpec.cast (sp := e18x _ _); (repeat' (first | with_reducible rfl | refine congrArg₂ List.cons ?_ ?_ | exact iN_lit _ | rfl))))
                   | ((refine eq23 (e := x) (f := x) hxo.w hxo.w ?_); rw [decide_eq_true rfl])
                   | (with_reducible refine NextSt.mk ?_)
                   | (with_reducible refine OnBB.tt ?_)
                   | (with_reducible refine OnBB.ff ?_)
                   | ((with_reducible apply Cmp.yes); · first | omega | (with_reducible assumption) | (with_reducible rfl))
                   | ((with_reducible apply Cmp.no); · first | omega | (with_reducible assumption))
                   | ((with_reducible apply LoadSt.boxAgg); · (repeat (first | exact List.Mem.head _ | with_reducible apply List.mem_append_right | with_reducible apply List.mem_cons_of_mem)))
                   | ((with_reducible refine AllocSt.mk ?_); intro _b _hb _hbO)
                   | ((with_reducible apply StoreSt.box); (· (repeat (first | exact Upd.hd | apply Upd.tl | apply Upd.app))); (· rfl); (· rfl); (· rfl))
                   | ((with_reducible apply Cmp.no); · (dsimp only; omega)))
          all_goals (conv => whnf)
          all_goals refine FinSt.ret (by (try dsimp only); (try simp only [List.cons_append, List.nil_append]); (repeat (first | with_reducible exact List.Sublist.refl _ | with_reducible exact List.nil_sublist _ | with_reducible apply List.Sublist.cons_cons | with_reducible apply sub_app | apply List.Sublist.cons_cons | apply sub_app | with_reducible apply List.Sublist.cons | with_reducible apply sub_skip))) ?_
          all_goals rfl
        · by_cases hm4 : ap (nb t) (nb (sent x)) ≤ 4
          · have hdec := dec_bad hxo htl (by omega) hm4
            generalize ap (nb t) (nb (sent x)) = m at *
            repeat' (conv => whnf
                     first
                     | ((with_reducible refine CallSt.rd (f := 20) (X := decR (fr0, 0, 91)) ?_ ?_); (· rw [← hdec]; exact f20 t (by omega) _ _))
                     | ((refine eq23 (e := fr0) (f := fr0) fr0W fr0W ?_); rw [decide_eq_true rfl])
                     | ((with_reducible refine CallSt.rd (f := 18) (X := strE (sent x, 0)) ?_ ?_); (· apply GSpec.cast (sp := e18x _ _); (repeat' (first | with_reducible rfl | refine congrArg₂ List.cons ?_ ?_ | exact iN_lit _ | rfl))))
                     | ((refine eq23 (e := x) (f := x) hxo.w hxo.w ?_); rw [decide_eq_true rfl])
                     | (with_reducible refine NextSt.mk ?_)
                     | (with_reducible refine OnBB.tt ?_)
                     | (with_reducible refine OnBB.ff ?_)
                     | ((with_reducible apply Cmp.yes); · first | omega | (with_reducible assumption) | (with_reducible rfl))
                     | ((with_reducible apply Cmp.no); · first | omega | (with_reducible assumption))
                     | ((with_reducible apply LoadSt.boxAgg); · (repeat (first | exact List.Mem.head _ | with_reducible apply List.mem_append_right | with_reducible apply List.mem_cons_of_mem)))
                     | ((with_reducible refine AllocSt.mk ?_); intro _b _hb _hbO)
                     | ((with_reducible apply StoreSt.box); (· (repeat (first | exact Upd.hd | apply Upd.tl | apply Upd.app))); (· rfl); (· rfl); (· rfl))
                     | ((with_reducible apply Cmp.yes); · (dsimp only; omega))
                     | ((with_reducible apply Cmp.no); · (dsimp only; omega))
                     | ((with_reducible refine Cmp.mk ?_ ?_) <;> intro _hc))
            all_goals (conv => whnf)
            all_goals refine FinSt.ret (by (try dsimp only); (try simp only [List.cons_append, List.nil_append]); (repeat (first | with_reducible exact List.Sublist.refl _ | with_reducible exact List.nil_sublist _ | with_reducible apply List.Sublist.cons_cons | with_reducible apply sub_app | apply List.Sublist.cons_cons | apply sub_app | with_reducible apply List.Sublist.cons | with_reducible apply sub_skip))) ?_
            all_goals rfl
          · rcases dec_some (t := t) with hdec | ⟨f, hfo, hdec, hfl, hf2⟩
            · generalize ap (nb t) (nb (sent x)) = m at *
              repeat' (conv => whnf
                       first
                       | ((with_reducible refine CallSt.rd (f := 20) (X := decR (fr0, 0, 91)) ?_ ?_); (· rw [← hdec]; exact f20 t (by omega) _ _))
                       | ((refine eq23 (e := fr0) (f := fr0) fr0W fr0W ?_); rw [decide_eq_true rfl])
                       | ((with_reducible refine CallSt.rd (f := 18) (X := strE (sent x, 0)) ?_ ?_); (· apply GSpec.cast (sp := e18x _ _); (repeat' (first | with_reducible rfl | refine congrArg₂ List.cons ?_ ?_ | exact iN_lit _ | rfl))))
                       | ((refine eq23 (e := x) (f := x) hxo.w hxo.w ?_); rw [decide_eq_true rfl])
                       | (with_reducible refine NextSt.mk ?_)
                       | (with_reducible refine OnBB.tt ?_)
                       | (with_reducible refine OnBB.ff ?_)
                       | ((with_reducible apply Cmp.no); · first | omega | (with_reducible assumption))
                       | ((with_reducible apply LoadSt.boxAgg); · (repeat (first | exact List.Mem.head _ | with_reducible apply List.mem_append_right | with_reducible apply List.mem_cons_of_mem)))
                       | ((with_reducible refine AllocSt.mk ?_); intro _b _hb _hbO)
                       | ((with_reducible apply StoreSt.box); (· (repeat (first | exact Upd.hd | apply Upd.tl | apply Upd.app))); (· rfl); (· rfl); (· rfl))
                       | ((with_reducible apply Cmp.yes); · (dsimp only; omega))
                       | ((with_reducible apply Cmp.no); · (dsimp only; omega)))
              all_goals (conv => whnf)
              all_goals refine FinSt.ret (by (try dsimp only); (try simp only [List.cons_append, List.nil_append]); (repeat (first | with_reducible exact List.Sublist.refl _ | with_reducible exact List.nil_sublist _ | with_reducible apply List.Sublist.cons_cons | with_reducible apply sub_app | apply List.Sublist.cons_cons | apply sub_app | with_reducible apply List.Sublist.cons | with_reducible apply sub_skip))) ?_
              all_goals rfl
            · have hapf : apartV (sent f) t = (ap (nb (sent f)) (nb t), true) := apartV_eq hfl
              have e18f := fun h O => f18L f (by have := hfo.w.2.2.2.2; omega) h O
              rw [show encV f = (sent f, 0) from if_pos hfo] at e18f
              generalize ap (nb t) (nb (sent x)) = m at *
              generalize ap (nb (sent f)) (nb t) = q at *
              repeat' (conv => whnf
                       first
                       | ((with_reducible refine CallSt.rd (f := 20) (X := decR (f, q, 0)) ?_ ?_); (· rw [← hdec]; exact f20 t (by omega) _ _))
                       | ((with_reducible refine CallSt.rd (f := 18) (X := strE (sent f, 0)) ?_ ?_); (· apply GSpec.cast (sp := e18f _ _); (repeat' (first | with_reducible rfl | refine congrArg₂ List.cons ?_ ?_ | exact iN_lit _ | rfl))))
                       | ((with_reducible refine CallSt.rd (f := 31) (X := nbV (q, true)) ?_ ?_); (· rw [← hapf]; (apply GSpec.cast (sp := f31 (sent f) t (by omega) (by omega) _ _); (repeat' (first | with_reducible rfl | refine congrArg₂ List.cons ?_ ?_ | exact iN_lit _ | rfl)))))
                       | ((with_reducible refine CallSt.rd (f := 18) (X := strE (sent x, 0)) ?_ ?_); (· apply GSpec.cast (sp := e18x _ _); (repeat' (first | with_reducible rfl | refine congrArg₂ List.cons ?_ ?_ | exact iN_lit _ | rfl))))
                       | ((refine eq23 (e := x) (f := x) hxo.w hxo.w ?_); rw [decide_eq_true rfl])
                       | (with_reducible refine NextSt.mk ?_)
                       | (with_reducible refine OnBB.tt ?_)
                       | (with_reducible refine OnBB.ff ?_)
                       | ((with_reducible apply Cmp.no); · first | omega | (with_reducible assumption))
                       | ((with_reducible apply LoadSt.boxAgg); · (repeat (first | exact List.Mem.head _ | with_reducible apply List.mem_append_right | with_reducible apply List.mem_cons_of_mem)))
                       | ((with_reducible refine AllocSt.mk ?_); intro _b _hb _hbO)
                       | ((with_reducible apply StoreSt.box); (· (repeat (first | exact Upd.hd | apply Upd.tl | apply Upd.app))); (· rfl); (· rfl); (· rfl))
                       | ((with_reducible apply Cmp.no); · (dsimp only; omega)))
              all_goals (conv => whnf)
              all_goals refine FinSt.ret (by (try dsimp only); (try simp only [List.cons_append, List.nil_append]); (repeat (first | with_reducible exact List.Sublist.refl _ | with_reducible exact List.nil_sublist _ | with_reducible apply List.Sublist.cons_cons | with_reducible apply sub_app | apply List.Sublist.cons_cons | apply sub_app | with_reducible apply List.Sublist.cons | with_reducible apply sub_skip))) ?_
              all_goals rfl
      · by_cases hll : (sent y).length = (sent x).length
        · have hfar := far_sent hxo hyo hll.symm hxy
          refine GSpec.enter (fn := Try.f6) Try.func6 rfl (by kernel_rfl) ?_
          repeat' (conv => whnf
                   first
                   | ((with_reducible refine CallSt.rd (f := 17) (X := .bool true) ?_ ?_); (· exact f17 _ _))
                   | ((with_reducible refine CallSt.rd (f := 18) (X := strE (sent x, 0)) ?_ ?_); (· apply GSpec.cast (sp := e18x _ _); (repeat' (first | with_reducible rfl | refine congrArg₂ List.cons ?_ ?_ | exact iN_lit _ | rfl))))
                   | (((apply CallSt.rel (f33 (sent x) at_ by_ a1 a2 c1 c2 (by omega) hat hby ha hb _ _ (by (repeat (first | with_reducible assumption | (with_reducible apply Buf.rd; with_reducible assumption) | (with_reducible apply Rd.appL; with_reducible assumption) | (with_reducible apply Rd.appL; with_reducible apply Buf.rd; with_reducible assumption) | with_reducible apply Rd.cons | with_reducible apply Rd.appR))) (by (repeat (first | with_reducible assumption | (with_reducible apply Buf.rd; with_reducible assumption) | (with_reducible apply Rd.appL; with_reducible assumption) | (with_reducible apply Rd.appL; with_reducible apply Buf.rd; with_reducible assumption) | with_reducible apply Rd.cons | with_reducible apply Rd.appR))))); rintro _ ⟨t, htl, htm, rfl⟩))
                   | (with_reducible refine NextSt.mk ?_)
                   | (with_reducible refine OnBB.tt ?_)
                   | (with_reducible refine OnBB.ff ?_)
                   | ((with_reducible apply Cmp.no); · first | omega | (with_reducible assumption))
                   | ((with_reducible apply LoadSt.boxAgg); · (repeat (first | exact List.Mem.head _ | with_reducible apply List.mem_append_right | with_reducible apply List.mem_cons_of_mem)))
                   | ((with_reducible refine AllocSt.mk ?_); intro _b _hb _hbO))
          have htl2 : t.length ≤ 42 := by omega
          by_cases hm2 : ap (nb t) (nb (sent x)) ≤ 2
          · have hdec := dec_good hxo htl hm2
            have hapx : apartV (sent x) t = (ap (nb t) (nb (sent x)), true) := by rw [apartV_eq htl.symm, ap_comm]
            generalize ap (nb t) (nb (sent x)) = m at *
            repeat' (conv => whnf
                     first
                     | ((with_reducible refine CallSt.rd (f := 20) (X := decR (x, m, 0)) ?_ ?_); (· rw [← hdec]; exact f20 t (by omega) _ _))
                     | ((with_reducible refine CallSt.rd (f := 18) (X := strE (sent x, 0)) ?_ ?_); (· apply GSpec.cast (sp := e18x _ _); (repeat' (first | with_reducible rfl | refine congrArg₂ List.cons ?_ ?_ | exact iN_lit _ | rfl))))
                     | ((with_reducible refine CallSt.rd (f := 31) (X := nbV (m, true)) ?_ ?_); (· rw [← hapx]; (apply GSpec.cast (sp := f31 (sent x) t (by omega) (by omega) _ _); (repeat' (first | with_reducible rfl | refine congrArg₂ List.cons ?_ ?_ | exact iN_lit _ | rfl)))))
                     | ((with_reducible refine CallSt.rd (f := 18) (X := strE (sent y, 0)) ?_ ?_); (· apply GSpec.cast (sp := e18y _ _); (repeat' (first | with_reducible rfl | refine congrArg₂ List.cons ?_ ?_ | exact iN_lit _ | rfl))))
                     | ((refine eq23 (e := x) (f := y) hxo.w hyo.w ?_); rw [decide_eq_false hxy])
                     | ((with_reducible refine CallSt.rd (f := 31) (X := nbV (ap (nb (sent x)) (nb (sent y)), true)) ?_ ?_); (· rw [← apartV_eq hll.symm]; (apply GSpec.cast (sp := f31 (sent x) (sent y) (by omega) (by omega) _ _); (repeat' (first | with_reducible rfl | refine congrArg₂ List.cons ?_ ?_ | exact iN_lit _ | rfl)))))
                     | ((refine eq23 (e := x) (f := x) hxo.w hxo.w ?_); rw [decide_eq_true rfl])
                     | (with_reducible refine NextSt.mk ?_)
                     | (with_reducible refine OnBB.tt ?_)
                     | (with_reducible refine OnBB.ff ?_)
                     | ((with_reducible apply Cmp.yes); · first | omega | (with_reducible assumption) | (with_reducible rfl))
                     | ((with_reducible apply Cmp.no); · first | omega | (with_reducible assumption))
                     | ((with_reducible apply LoadSt.boxAgg); · (repeat (first | exact List.Mem.head _ | with_reducible apply List.mem_append_right | with_reducible apply List.mem_cons_of_mem)))
                     | ((with_reducible refine AllocSt.mk ?_); intro _b _hb _hbO)
                     | ((with_reducible apply StoreSt.box); (· (repeat (first | exact Upd.hd | apply Upd.tl | apply Upd.app))); (· rfl); (· rfl); (· rfl))
                     | ((with_reducible apply Cmp.no); · (dsimp only; omega)))
            all_goals (conv => whnf)
            all_goals refine FinSt.ret (by (try dsimp only); (try simp only [List.cons_append, List.nil_append]); (repeat (first | with_reducible exact List.Sublist.refl _ | with_reducible exact List.nil_sublist _ | with_reducible apply List.Sublist.cons_cons | with_reducible apply sub_app | apply List.Sublist.cons_cons | apply sub_app | with_reducible apply List.Sublist.cons | with_reducible apply sub_skip))) ?_
            all_goals rfl
          · by_cases hm4 : ap (nb t) (nb (sent x)) ≤ 4
            · have hdec := dec_bad hxo htl (by omega) hm4
              generalize ap (nb t) (nb (sent x)) = m at *
              repeat' (conv => whnf
                       first
                       | ((with_reducible refine CallSt.rd (f := 20) (X := decR (fr0, 0, 91)) ?_ ?_); (· rw [← hdec]; exact f20 t (by omega) _ _))
                       | ((refine eq23 (e := fr0) (f := fr0) fr0W fr0W ?_); rw [decide_eq_true rfl])
                       | ((with_reducible refine CallSt.rd (f := 18) (X := strE (sent y, 0)) ?_ ?_); (· apply GSpec.cast (sp := e18y _ _); (repeat' (first | with_reducible rfl | refine congrArg₂ List.cons ?_ ?_ | exact iN_lit _ | rfl))))
                       | ((refine eq23 (e := x) (f := y) hxo.w hyo.w ?_); rw [decide_eq_false hxy])
                       | ((with_reducible refine CallSt.rd (f := 31) (X := nbV (ap (nb (sent x)) (nb (sent y)), true)) ?_ ?_); (· rw [← apartV_eq hll.symm]; (apply GSpec.cast (sp := f31 (sent x) (sent y) (by omega) (by omega) _ _); (repeat' (first | with_reducible rfl | refine congrArg₂ List.cons ?_ ?_ | exact iN_lit _ | rfl)))))
                       | (with_reducible refine NextSt.mk ?_)
                       | (with_reducible refine OnBB.tt ?_)
                       | (with_reducible refine OnBB.ff ?_)
                       | ((with_reducible apply Cmp.yes); · first | omega | (with_reducible assumption) | (with_reducible rfl))
                       | ((with_reducible apply Cmp.no); · first | omega | (with_reducible assumption))
                       | ((with_reducible apply LoadSt.boxAgg); · (repeat (first | exact List.Mem.head _ | with_reducible apply List.mem_append_right | with_reducible apply List.mem_cons_of_mem)))
                       | ((with_reducible refine AllocSt.mk ?_); intro _b _hb _hbO)
                       | ((with_reducible apply StoreSt.box); (· (repeat (first | exact Upd.hd | apply Upd.tl | apply Upd.app))); (· rfl); (· rfl); (· rfl))
                       | ((with_reducible apply Cmp.yes); · (dsimp only; omega))
                       | ((with_reducible apply Cmp.no); · (dsimp only; omega))
                       | ((with_reducible refine Cmp.mk ?_ ?_) <;> intro _hc))
              all_goals (conv => whnf)
              all_goals refine FinSt.ret (by (try dsimp only); (try simp only [List.cons_append, List.nil_append]); (repeat (first | with_reducible exact List.Sublist.refl _ | with_reducible exact List.nil_sublist _ | with_reducible apply List.Sublist.cons_cons | with_reducible apply sub_app | apply List.Sublist.cons_cons | apply sub_app | with_reducible apply List.Sublist.cons | with_reducible apply sub_skip))) ?_
              all_goals rfl
            · rcases dec_some (t := t) with hdec | ⟨f, hfo, hdec, hfl, hf2⟩
              · generalize ap (nb t) (nb (sent x)) = m at *
                repeat' (conv => whnf
                         first
                         | ((with_reducible refine CallSt.rd (f := 20) (X := decR (fr0, 0, 91)) ?_ ?_); (· rw [← hdec]; exact f20 t (by omega) _ _))
                         | ((refine eq23 (e := fr0) (f := fr0) fr0W fr0W ?_); rw [decide_eq_true rfl])
                         | ((with_reducible refine CallSt.rd (f := 18) (X := strE (sent y, 0)) ?_ ?_); (· apply GSpec.cast (sp := e18y _ _); (repeat' (first | with_reducible rfl | refine congrArg₂ List.cons ?_ ?_ | exact iN_lit _ | rfl))))
                         | ((refine eq23 (e := x) (f := y) hxo.w hyo.w ?_); rw [decide_eq_false hxy])
                         | ((with_reducible refine CallSt.rd (f := 31) (X := nbV (ap (nb (sent x)) (nb (sent y)), true)) ?_ ?_); (· rw [← apartV_eq hll.symm]; (apply GSpec.cast (sp := f31 (sent x) (sent y) (by omega) (by omega) _ _); (repeat' (first | with_reducible rfl | refine congrArg₂ List.cons ?_ ?_ | exact iN_lit _ | rfl)))))
                         | (with_reducible refine NextSt.mk ?_)
                         | (with_reducible refine OnBB.tt ?_)
                         | (with_reducible refine OnBB.ff ?_)
                         | ((with_reducible apply Cmp.yes); · first | omega | (with_reducible assumption) | (with_reducible rfl))
                         | ((with_reducible apply Cmp.no); · first | omega | (with_reducible assumption))
                         | ((with_reducible apply LoadSt.boxAgg); · (repeat (first | exact List.Mem.head _ | with_reducible apply List.mem_append_right | with_reducible apply List.mem_cons_of_mem)))
                         | ((with_reducible refine AllocSt.mk ?_); intro _b _hb _hbO)
                         | ((with_reducible apply StoreSt.box); (· (repeat (first | exact Upd.hd | apply Upd.tl | apply Upd.app))); (· rfl); (· rfl); (· rfl))
                         | ((with_reducible apply Cmp.yes); · (dsimp only; omega))
                         | ((with_reducible apply Cmp.no); · (dsimp only; omega)))
                all_goals (conv => whnf)
                all_goals refine FinSt.ret (by (try dsimp only); (try simp only [List.cons_append, List.nil_append]); (repeat (first | with_reducible exact List.Sublist.refl _ | with_reducible exact List.nil_sublist _ | with_reducible apply List.Sublist.cons_cons | with_reducible apply sub_app | apply List.Sublist.cons_cons | apply sub_app | with_reducible apply List.Sublist.cons | with_reducible apply sub_skip))) ?_
                all_goals rfl
              · have hapf : apartV (sent f) t = (ap (nb (sent f)) (nb t), true) := apartV_eq hfl
                have e18f := fun h O => f18L f (by have := hfo.w.2.2.2.2; omega) h O
                rw [show encV f = (sent f, 0) from if_pos hfo] at e18f
                generalize ap (nb t) (nb (sent x)) = m at *
                generalize ap (nb (sent f)) (nb t) = q at *
                repeat' (conv => whnf
                         first
                         | ((with_reducible refine CallSt.rd (f := 20) (X := decR (f, q, 0)) ?_ ?_); (· rw [← hdec]; exact f20 t (by omega) _ _))
                         | ((with_reducible refine CallSt.rd (f := 18) (X := strE (sent f, 0)) ?_ ?_); (· apply GSpec.cast (sp := e18f _ _); (repeat' (first | with_reducible rfl | refine congrArg₂ List.cons ?_ ?_ | exact iN_lit _ | rfl))))
                         | ((with_reducible refine CallSt.rd (f := 31) (X := nbV (q, true)) ?_ ?_); (· rw [← hapf]; (apply GSpec.cast (sp := f31 (sent f) t (by omega) (by omega) _ _); (repeat' (first | with_reducible rfl | refine congrArg₂ List.cons ?_ ?_ | exact iN_lit _ | rfl)))))
                         | ((with_reducible refine CallSt.rd (f := 18) (X := strE (sent y, 0)) ?_ ?_); (· apply GSpec.cast (sp := e18y _ _); (repeat' (first | with_reducible rfl | refine congrArg₂ List.cons ?_ ?_ | exact iN_lit _ | rfl))))
                         | ((refine eq23 (e := x) (f := y) hxo.w hyo.w ?_); rw [decide_eq_false hxy])
                         | ((with_reducible refine CallSt.rd (f := 31) (X := nbV (ap (nb (sent x)) (nb (sent y)), true)) ?_ ?_); (· rw [← apartV_eq hll.symm]; (apply GSpec.cast (sp := f31 (sent x) (sent y) (by omega) (by omega) _ _); (repeat' (first | with_reducible rfl | refine congrArg₂ List.cons ?_ ?_ | exact iN_lit _ | rfl)))))
                         | (with_reducible refine NextSt.mk ?_)
                         | (with_reducible refine OnBB.tt ?_)
                         | (with_reducible refine OnBB.ff ?_)
                         | ((with_reducible apply Cmp.yes); · first | omega | (with_reducible assumption) | (with_reducible rfl))
                         | ((with_reducible apply Cmp.no); · first | omega | (with_reducible assumption))
                         | ((with_reducible apply LoadSt.boxAgg); · (repeat (first | exact List.Mem.head _ | with_reducible apply List.mem_append_right | with_reducible apply List.mem_cons_of_mem)))
                         | ((with_reducible refine AllocSt.mk ?_); intro _b _hb _hbO)
                         | ((with_reducible apply StoreSt.box); (· (repeat (first | exact Upd.hd | apply Upd.tl | apply Upd.app))); (· rfl); (· rfl); (· rfl))
                         | ((with_reducible apply Cmp.no); · (dsimp only; omega)))
                all_goals (conv => whnf)
                all_goals refine FinSt.ret (by (try dsimp only); (try simp only [List.cons_append, List.nil_append]); (repeat (first | with_reducible exact List.Sublist.refl _ | with_reducible exact List.nil_sublist _ | with_reducible apply List.Sublist.cons_cons | with_reducible apply sub_app | apply List.Sublist.cons_cons | apply sub_app | with_reducible apply List.Sublist.cons | with_reducible apply sub_skip))) ?_
                all_goals rfl
        · have hll2 : ¬ ((sent y).length : Int) = ((sent x).length : Int) := by omega
          refine GSpec.enter (fn := Try.f6) Try.func6 rfl (by kernel_rfl) ?_
          repeat' (conv => whnf
                   first
                   | ((with_reducible refine CallSt.rd (f := 17) (X := .bool true) ?_ ?_); (· exact f17 _ _))
                   | ((with_reducible refine CallSt.rd (f := 18) (X := strE (sent x, 0)) ?_ ?_); (· apply GSpec.cast (sp := e18x _ _); (repeat' (first | with_reducible rfl | refine congrArg₂ List.cons ?_ ?_ | exact iN_lit _ | rfl))))
                   | (((apply CallSt.rel (f33 (sent x) at_ by_ a1 a2 c1 c2 (by omega) hat hby ha hb _ _ (by (repeat (first | with_reducible assumption | (with_reducible apply Buf.rd; with_reducible assumption) | (with_reducible apply Rd.appL; with_reducible assumption) | (with_reducible apply Rd.appL; with_reducible apply Buf.rd; with_reducible assumption) | with_reducible apply Rd.cons | with_reducible apply Rd.appR))) (by (repeat (first | with_reducible assumption | (with_reducible apply Buf.rd; with_reducible assumption) | (with_reducible apply Rd.appL; with_reducible assumption) | (with_reducible apply Rd.appL; with_reducible apply Buf.rd; with_reducible assumption) | with_reducible apply Rd.cons | with_reducible apply Rd.appR))))); rintro _ ⟨t, htl, htm, rfl⟩))
                   | (with_reducible refine NextSt.mk ?_)
                   | (with_reducible refine OnBB.tt ?_)
                   | (with_reducible refine OnBB.ff ?_)
                   | ((with_reducible apply Cmp.no); · first | omega | (with_reducible assumption))
                   | ((with_reducible apply LoadSt.boxAgg); · (repeat (first | exact List.Mem.head _ | with_reducible apply List.mem_append_right | with_reducible apply List.mem_cons_of_mem)))
                   | ((with_reducible refine AllocSt.mk ?_); intro _b _hb _hbO))
          have htl2 : t.length ≤ 42 := by omega
          by_cases hm2 : ap (nb t) (nb (sent x)) ≤ 2
          · have hdec := dec_good hxo htl hm2
            have hapx : apartV (sent x) t = (ap (nb t) (nb (sent x)), true) := by rw [apartV_eq htl.symm, ap_comm]
            generalize ap (nb t) (nb (sent x)) = m at *
            repeat' (conv => whnf
                     first
                     | ((with_reducible refine CallSt.rd (f := 20) (X := decR (x, m, 0)) ?_ ?_); (· rw [← hdec]; exact f20 t (by omega) _ _))
                     | ((with_reducible refine CallSt.rd (f := 18) (X := strE (sent x, 0)) ?_ ?_); (· apply GSpec.cast (sp := e18x _ _); (repeat' (first | with_reducible rfl | refine congrArg₂ List.cons ?_ ?_ | exact iN_lit _ | rfl))))
                     | ((with_reducible refine CallSt.rd (f := 31) (X := nbV (m, true)) ?_ ?_); (· rw [← hapx]; (apply GSpec.cast (sp := f31 (sent x) t (by omega) (by omega) _ _); (repeat' (first | with_reducible rfl | refine congrArg₂ List.cons ?_ ?_ | exact iN_lit _ | rfl)))))
                     | ((with_reducible refine CallSt.rd (f := 18) (X := strE (sent y, 0)) ?_ ?_); (· apply GSpec.cast (sp := e18y _ _); (repeat' (first | with_reducible rfl | refine congrArg₂ List.cons ?_ ?_ | exact iN_lit _ | rfl))))
                     | ((refine eq23 (e := x) (f := y) hxo.w hyo.w ?_); rw [decide_eq_false hxy])
                     | ((refine eq23 (e := x) (f := x) hxo.w hxo.w ?_); rw [decide_eq_true rfl])
                     | (with_reducible refine NextSt.mk ?_)
                     | (with_reducible refine OnBB.tt ?_)
                     | (with_reducible refine OnBB.ff ?_)
                     | ((with_reducible apply Cmp.yes); · first | omega | (with_reducible assumption) | (with_reducible rfl))
                     | ((with_reducible apply Cmp.no); · first | omega | (with_reducible assumption))
                     | ((with_reducible apply LoadSt.boxAgg); · (repeat (first | exact List.Mem.head _ | with_reducible apply List.mem_append_right | with_reducible apply List.mem_cons_of_mem)))
                     | ((with_reducible refine AllocSt.mk ?_); intro _b _hb _hbO)
                     | ((with_reducible apply StoreSt.box); (· (repeat (first | exact Upd.hd | apply Upd.tl | apply Upd.app))); (· rfl); (· rfl); (· rfl))
                     | ((with_reducible apply Cmp.no); · (dsimp only; omega)))
            all_goals (conv => whnf)
            all_goals refine FinSt.ret (by (try dsimp only); (try simp only [List.cons_append, List.nil_append]); (repeat (first | with_reducible exact List.Sublist.refl _ | with_reducible exact List.nil_sublist _ | with_reducible apply List.Sublist.cons_cons | with_reducible apply sub_app | apply List.Sublist.cons_cons | apply sub_app | with_reducible apply List.Sublist.cons | with_reducible apply sub_skip))) ?_
            all_goals rfl
          · by_cases hm4 : ap (nb t) (nb (sent x)) ≤ 4
            · have hdec := dec_bad hxo htl (by omega) hm4
              generalize ap (nb t) (nb (sent x)) = m at *
              repeat' (conv => whnf
                       first
                       | ((with_reducible refine CallSt.rd (f := 20) (X := decR (fr0, 0, 91)) ?_ ?_); (· rw [← hdec]; exact f20 t (by omega) _ _))
                       | ((refine eq23 (e := fr0) (f := fr0) fr0W fr0W ?_); rw [decide_eq_true rfl])
                       | ((with_reducible refine CallSt.rd (f := 18) (X := strE (sent y, 0)) ?_ ?_); (· apply GSpec.cast (sp := e18y _ _); (repeat' (first | with_reducible rfl | refine congrArg₂ List.cons ?_ ?_ | exact iN_lit _ | rfl))))
                       | ((refine eq23 (e := x) (f := y) hxo.w hyo.w ?_); rw [decide_eq_false hxy])
                       | (with_reducible refine NextSt.mk ?_)
                       | (with_reducible refine OnBB.tt ?_)
                       | (with_reducible refine OnBB.ff ?_)
                       | ((with_reducible apply Cmp.yes); · first | omega | (with_reducible assumption) | (with_reducible rfl))
                       | ((with_reducible apply Cmp.no); · first | omega | (with_reducible assumption))
                       | ((with_reducible apply LoadSt.boxAgg); · (repeat (first | exact List.Mem.head _ | with_reducible apply List.mem_append_right | with_reducible apply List.mem_cons_of_mem)))
                       | ((with_reducible refine AllocSt.mk ?_); intro _b _hb _hbO)
                       | ((with_reducible apply StoreSt.box); (· (repeat (first | exact Upd.hd | apply Upd.tl | apply Upd.app))); (· rfl); (· rfl); (· rfl))
                       | ((with_reducible apply Cmp.yes); · (dsimp only; omega))
                       | ((with_reducible apply Cmp.no); · (dsimp only; omega))
                       | ((with_reducible refine Cmp.mk ?_ ?_) <;> intro _hc))
              all_goals (conv => whnf)
              all_goals refine FinSt.ret (by (try dsimp only); (try simp only [List.cons_append, List.nil_append]); (repeat (first | with_reducible exact List.Sublist.refl _ | with_reducible exact List.nil_sublist _ | with_reducible apply List.Sublist.cons_cons | with_reducible apply sub_app | apply List.Sublist.cons_cons | apply sub_app | with_reducible apply List.Sublist.cons | with_reducible apply sub_skip))) ?_
              all_goals rfl
            · rcases dec_some (t := t) with hdec | ⟨f, hfo, hdec, hfl, hf2⟩
              · generalize ap (nb t) (nb (sent x)) = m at *
                repeat' (conv => whnf
                         first
                         | ((with_reducible refine CallSt.rd (f := 20) (X := decR (fr0, 0, 91)) ?_ ?_); (· rw [← hdec]; exact f20 t (by omega) _ _))
                         | ((refine eq23 (e := fr0) (f := fr0) fr0W fr0W ?_); rw [decide_eq_true rfl])
                         | ((with_reducible refine CallSt.rd (f := 18) (X := strE (sent y, 0)) ?_ ?_); (· apply GSpec.cast (sp := e18y _ _); (repeat' (first | with_reducible rfl | refine congrArg₂ List.cons ?_ ?_ | exact iN_lit _ | rfl))))
                         | ((refine eq23 (e := x) (f := y) hxo.w hyo.w ?_); rw [decide_eq_false hxy])
                         | (with_reducible refine NextSt.mk ?_)
                         | (with_reducible refine OnBB.tt ?_)
                         | (with_reducible refine OnBB.ff ?_)
                         | ((with_reducible apply Cmp.yes); · first | omega | (with_reducible assumption) | (with_reducible rfl))
                         | ((with_reducible apply Cmp.no); · first | omega | (with_reducible assumption))
                         | ((with_reducible apply LoadSt.boxAgg); · (repeat (first | exact List.Mem.head _ | with_reducible apply List.mem_append_right | with_reducible apply List.mem_cons_of_mem)))
                         | ((with_reducible refine AllocSt.mk ?_); intro _b _hb _hbO)
                         | ((with_reducible apply StoreSt.box); (· (repeat (first | exact Upd.hd | apply Upd.tl | apply Upd.app))); (· rfl); (· rfl); (· rfl))
                         | ((with_reducible apply Cmp.yes); · (dsimp only; omega))
                         | ((with_reducible apply Cmp.no); · (dsimp only; omega)))
                all_goals (conv => whnf)
                all_goals refine FinSt.ret (by (try dsimp only); (try simp only [List.cons_append, List.nil_append]); (repeat (first | with_reducible exact List.Sublist.refl _ | with_reducible exact List.nil_sublist _ | with_reducible apply List.Sublist.cons_cons | with_reducible apply sub_app | apply List.Sublist.cons_cons | apply sub_app | with_reducible apply List.Sublist.cons | with_reducible apply sub_skip))) ?_
                all_goals rfl
              · have hapf : apartV (sent f) t = (ap (nb (sent f)) (nb t), true) := apartV_eq hfl
                have e18f := fun h O => f18L f (by have := hfo.w.2.2.2.2; omega) h O
                rw [show encV f = (sent f, 0) from if_pos hfo] at e18f
                generalize ap (nb t) (nb (sent x)) = m at *
                generalize ap (nb (sent f)) (nb t) = q at *
                repeat' (conv => whnf
                         first
                         | ((with_reducible refine CallSt.rd (f := 20) (X := decR (f, q, 0)) ?_ ?_); (· rw [← hdec]; exact f20 t (by omega) _ _))
                         | ((with_reducible refine CallSt.rd (f := 18) (X := strE (sent f, 0)) ?_ ?_); (· apply GSpec.cast (sp := e18f _ _); (repeat' (first | with_reducible rfl | refine congrArg₂ List.cons ?_ ?_ | exact iN_lit _ | rfl))))
                         | ((with_reducible refine CallSt.rd (f := 31) (X := nbV (q, true)) ?_ ?_); (· rw [← hapf]; (apply GSpec.cast (sp := f31 (sent f) t (by omega) (by omega) _ _); (repeat' (first | with_reducible rfl | refine congrArg₂ List.cons ?_ ?_ | exact iN_lit _ | rfl)))))
                         | ((with_reducible refine CallSt.rd (f := 18) (X := strE (sent y, 0)) ?_ ?_); (· apply GSpec.cast (sp := e18y _ _); (repeat' (first | with_reducible rfl | refine congrArg₂ List.cons ?_ ?_ | exact iN_lit _ | rfl))))
                         | ((refine eq23 (e := x) (f := y) hxo.w hyo.w ?_); rw [decide_eq_false hxy])
                         | (with_reducible refine NextSt.mk ?_)
                         | (with_reducible refine OnBB.tt ?_)
                         | (with_reducible refine OnBB.ff ?_)
                         | ((with_reducible apply Cmp.yes); · first | omega | (with_reducible assumption) | (with_reducible rfl))
                         | ((with_reducible apply Cmp.no); · first | omega | (with_reducible assumption))
                         | ((with_reducible apply LoadSt.boxAgg); · (repeat (first | exact List.Mem.head _ | with_reducible apply List.mem_append_right | with_reducible apply List.mem_cons_of_mem)))
                         | ((with_reducible refine AllocSt.mk ?_); intro _b _hb _hbO)
                         | ((with_reducible apply StoreSt.box); (· (repeat (first | exact Upd.hd | apply Upd.tl | apply Upd.app))); (· rfl); (· rfl); (· rfl))
                         | ((with_reducible apply Cmp.no); · (dsimp only; omega)))
                all_goals (conv => whnf)
                all_goals refine FinSt.ret (by (try dsimp only); (try simp only [List.cons_append, List.nil_append]); (repeat (first | with_reducible exact List.Sublist.refl _ | with_reducible exact List.nil_sublist _ | with_reducible apply List.Sublist.cons_cons | with_reducible apply sub_app | apply List.Sublist.cons_cons | apply sub_app | with_reducible apply List.Sublist.cons | with_reducible apply sub_skip))) ?_
                all_goals rfl
    · rw [show encV y = ([], 90) from if_neg hyo] at e18y
      refine GSpec.enter (fn := Try.f6) Try.func6 rfl (by kernel_rfl) ?_
      repeat' (conv => whnf
               first
               | ((with_reducible refine CallSt.rd (f := 17) (X := .bool true) ?_ ?_); (· exact f17 _ _))
               | ((with_reducible refine CallSt.rd (f := 18) (X := strE (sent x, 0)) ?_ ?_); (· apply GSpec.cast (sp := e18x _ _); (repeat' (first | with_reducible rfl | refine congrArg₂ List.cons ?_ ?_ | exact iN_lit _ | rfl))))
               | (((apply CallSt.rel (f33 (sent x) at_ by_ a1 a2 c1 c2 (by omega) hat hby ha hb _ _ (by (repeat (first | with_reducible assumption | (with_reducible apply Buf.rd; with_reducible assumption) | (with_reducible apply Rd.appL; with_reducible assumption) | (with_reducible apply Rd.appL; with_reducible apply Buf.rd; with_reducible assumption) | with_reducible apply Rd.cons | with_reducible apply Rd.appR))) (by (repeat (first | with_reducible assumption | (with_reducible apply Buf.rd; with_reducible assumption) | (with_reducible apply Rd.appL; with_reducible assumption) | (with_reducible apply Rd.appL; with_reducible apply Buf.rd; with_reducible assumption) | with_reducible apply Rd.cons | with_reducible apply Rd.appR))))); rintro _ ⟨t, htl, htm, rfl⟩))
               | (with_reducible refine NextSt.mk ?_)
               | (with_reducible refine OnBB.tt ?_)
               | (with_reducible refine OnBB.ff ?_)
               | ((with_reducible apply Cmp.no); · first | omega | (with_reducible assumption))
               | ((with_reducible apply LoadSt.boxAgg); · (repeat (first | exact List.Mem.head _ | with_reducible apply List.mem_append_right | with_reducible apply List.mem_cons_of_mem)))
               | ((with_reducible refine AllocSt.mk ?_); intro _b _hb _hbO))
      have htl2 : t.length ≤ 42 := by omega
      by_cases hm2 : ap (nb t) (nb (sent x)) ≤ 2
      · have hdec := dec_good hxo htl hm2
        have hapx : apartV (sent x) t = (ap (nb t) (nb (sent x)), true) := by rw [apartV_eq htl.symm, ap_comm]
        generalize ap (nb t) (nb (sent x)) = m at *
        repeat' (conv => whnf
                 first
                 | ((with_reducible refine CallSt.rd (f := 20) (X := decR (x, m, 0)) ?_ ?_); (· rw [← hdec]; exact f20 t (by omega) _ _))
                 | ((with_reducible refine CallSt.rd (f := 18) (X := strE (sent x, 0)) ?_ ?_); (· apply GSpec.cast (sp := e18x _ _); (repeat' (first | with_reducible rfl | refine congrArg₂ List.cons ?_ ?_ | exact iN_lit _ | rfl))))
                 | ((with_reducible refine CallSt.rd (f := 31) (X := nbV (m, true)) ?_ ?_); (· rw [← hapx]; (apply GSpec.cast (sp := f31 (sent x) t (by omega) (by omega) _ _); (repeat' (first | with_reducible rfl | refine congrArg₂ List.cons ?_ ?_ | exact iN_lit _ | rfl)))))
                 | ((with_reducible refine CallSt.rd (f := 18) (X := strE ([], 90)) ?_ ?_); (· apply GSpec.cast (sp := e18y _ _); (repeat' (first | with_reducible rfl | refine congrArg₂ List.cons ?_ ?_ | exact iN_lit _ | rfl))))
                 | ((refine eq23 (e := x) (f := x) hxo.w hxo.w ?_); rw [decide_eq_true rfl])
                 | (with_reducible refine NextSt.mk ?_)
                 | (with_reducible refine OnBB.tt ?_)
                 | (with_reducible refine OnBB.ff ?_)
                 | ((with_reducible apply Cmp.yes); · first | omega | (with_reducible assumption) | (with_reducible rfl))
                 | ((with_reducible apply Cmp.no); · first | omega | (with_reducible assumption))
                 | ((with_reducible apply LoadSt.boxAgg); · (repeat (first | exact List.Mem.head _ | with_reducible apply List.mem_append_right | with_reducible apply List.mem_cons_of_mem)))
                 | ((with_reducible refine AllocSt.mk ?_); intro _b _hb _hbO)
                 | ((with_reducible apply StoreSt.box); (· (repeat (first | exact Upd.hd | apply Upd.tl | apply Upd.app))); (· rfl); (· rfl); (· rfl))
                 | ((with_reducible apply Cmp.no); · (dsimp only; omega)))
        all_goals (conv => whnf)
        all_goals refine FinSt.ret (by (try dsimp only); (try simp only [List.cons_append, List.nil_append]); (repeat (first | with_reducible exact List.Sublist.refl _ | with_reducible exact List.nil_sublist _ | with_reducible apply List.Sublist.cons_cons | with_reducible apply sub_app | apply List.Sublist.cons_cons | apply sub_app | with_reducible apply List.Sublist.cons | with_reducible apply sub_skip))) ?_
        all_goals rfl
      · by_cases hm4 : ap (nb t) (nb (sent x)) ≤ 4
        · have hdec := dec_bad hxo htl (by omega) hm4
          generalize ap (nb t) (nb (sent x)) = m at *
          repeat' (conv => whnf
                   first
                   | ((with_reducible refine CallSt.rd (f := 20) (X := decR (fr0, 0, 91)) ?_ ?_); (· rw [← hdec]; exact f20 t (by omega) _ _))
                   | ((refine eq23 (e := fr0) (f := fr0) fr0W fr0W ?_); rw [decide_eq_true rfl])
                   | ((with_reducible refine CallSt.rd (f := 18) (X := strE ([], 90)) ?_ ?_); (· apply GSpec.cast (sp := e18y _ _); (repeat' (first | with_reducible rfl | refine congrArg₂ List.cons ?_ ?_ | exact iN_lit _ | rfl))))
                   | (with_reducible refine NextSt.mk ?_)
                   | (with_reducible refine OnBB.tt ?_)
                   | (with_reducible refine OnBB.ff ?_)
                   | ((with_reducible apply Cmp.yes); · first | omega | (with_reducible assumption) | (with_reducible rfl))
                   | ((with_reducible apply Cmp.no); · first | omega | (with_reducible assumption))
                   | ((with_reducible apply LoadSt.boxAgg); · (repeat (first | exact List.Mem.head _ | with_reducible apply List.mem_append_right | with_reducible apply List.mem_cons_of_mem)))
                   | ((with_reducible refine AllocSt.mk ?_); intro _b _hb _hbO)
                   | ((with_reducible apply StoreSt.box); (· (repeat (first | exact Upd.hd | apply Upd.tl | apply Upd.app))); (· rfl); (· rfl); (· rfl))
                   | ((with_reducible apply Cmp.yes); · (dsimp only; omega))
                   | ((with_reducible apply Cmp.no); · (dsimp only; omega))
                   | ((with_reducible refine Cmp.mk ?_ ?_) <;> intro _hc))
          all_goals (conv => whnf)
          all_goals refine FinSt.ret (by (try dsimp only); (try simp only [List.cons_append, List.nil_append]); (repeat (first | with_reducible exact List.Sublist.refl _ | with_reducible exact List.nil_sublist _ | with_reducible apply List.Sublist.cons_cons | with_reducible apply sub_app | apply List.Sublist.cons_cons | apply sub_app | with_reducible apply List.Sublist.cons | with_reducible apply sub_skip))) ?_
          all_goals rfl
        · rcases dec_some (t := t) with hdec | ⟨f, hfo, hdec, hfl, hf2⟩
          · generalize ap (nb t) (nb (sent x)) = m at *
            repeat' (conv => whnf
                     first
                     | ((with_reducible refine CallSt.rd (f := 20) (X := decR (fr0, 0, 91)) ?_ ?_); (· rw [← hdec]; exact f20 t (by omega) _ _))
                     | ((refine eq23 (e := fr0) (f := fr0) fr0W fr0W ?_); rw [decide_eq_true rfl])
                     | ((with_reducible refine CallSt.rd (f := 18) (X := strE ([], 90)) ?_ ?_); (· apply GSpec.cast (sp := e18y _ _); (repeat' (first | with_reducible rfl | refine congrArg₂ List.cons ?_ ?_ | exact iN_lit _ | rfl))))
                     | (with_reducible refine NextSt.mk ?_)
                     | (with_reducible refine OnBB.tt ?_)
                     | (with_reducible refine OnBB.ff ?_)
                     | ((with_reducible apply Cmp.yes); · first | omega | (with_reducible assumption) | (with_reducible rfl))
                     | ((with_reducible apply Cmp.no); · first | omega | (with_reducible assumption))
                     | ((with_reducible apply LoadSt.boxAgg); · (repeat (first | exact List.Mem.head _ | with_reducible apply List.mem_append_right | with_reducible apply List.mem_cons_of_mem)))
                     | ((with_reducible refine AllocSt.mk ?_); intro _b _hb _hbO)
                     | ((with_reducible apply StoreSt.box); (· (repeat (first | exact Upd.hd | apply Upd.tl | apply Upd.app))); (· rfl); (· rfl); (· rfl))
                     | ((with_reducible apply Cmp.yes); · (dsimp only; omega))
                     | ((with_reducible apply Cmp.no); · (dsimp only; omega)))
            all_goals (conv => whnf)
            all_goals refine FinSt.ret (by (try dsimp only); (try simp only [List.cons_append, List.nil_append]); (repeat (first | with_reducible exact List.Sublist.refl _ | with_reducible exact List.nil_sublist _ | with_reducible apply List.Sublist.cons_cons | with_reducible apply sub_app | apply List.Sublist.cons_cons | apply sub_app | with_reducible apply List.Sublist.cons | with_reducible apply sub_skip))) ?_
            all_goals rfl
          · have hapf : apartV (sent f) t = (ap (nb (sent f)) (nb t), true) := apartV_eq hfl
            have e18f := fun h O => f18L f (by have := hfo.w.2.2.2.2; omega) h O
            rw [show encV f = (sent f, 0) from if_pos hfo] at e18f
            generalize ap (nb t) (nb (sent x)) = m at *
            generalize ap (nb (sent f)) (nb t) = q at *
            repeat' (conv => whnf
                     first
                     | ((with_reducible refine CallSt.rd (f := 20) (X := decR (f, q, 0)) ?_ ?_); (· rw [← hdec]; exact f20 t (by omega) _ _))
                     | ((with_reducible refine CallSt.rd (f := 18) (X := strE (sent f, 0)) ?_ ?_); (· apply GSpec.cast (sp := e18f _ _); (repeat' (first | with_reducible rfl | refine congrArg₂ List.cons ?_ ?_ | exact iN_lit _ | rfl))))
                     | ((with_reducible refine CallSt.rd (f := 31) (X := nbV (q, true)) ?_ ?_); (· rw [← hapf]; (apply GSpec.cast (sp := f31 (sent f) t (by omega) (by omega) _ _); (repeat' (first | with_reducible rfl | refine congrArg₂ List.cons ?_ ?_ | exact iN_lit _ | rfl)))))
                     | ((with_reducible refine CallSt.rd (f := 18) (X := strE ([], 90)) ?_ ?_); (· apply GSpec.cast (sp := e18y _ _); (repeat' (first | with_reducible rfl | refine congrArg₂ List.cons ?_ ?_ | exact iN_lit _ | rfl))))
                     | (with_reducible refine NextSt.mk ?_)
                     | (with_reducible refine OnBB.tt ?_)
                     | (with_reducible refine OnBB.ff ?_)
                     | ((with_reducible apply Cmp.yes); · first | omega | (with_reducible assumption) | (with_reducible rfl))
                     | ((with_reducible apply Cmp.no); · first | omega | (with_reducible assumption))
                     | ((with_reducible apply LoadSt.boxAgg); · (repeat (first | exact List.Mem.head _ | with_reducible apply List.mem_append_right | with_reducible apply List.mem_cons_of_mem)))
                     | ((with_reducible refine AllocSt.mk ?_); intro _b _hb _hbO)
                     | ((with_reducible apply StoreSt.box); (· (repeat (first | exact Upd.hd | apply Upd.tl | apply Upd.app))); (· rfl); (· rfl); (· rfl))
                     | ((with_reducible apply Cmp.no); · (dsimp only; omega)))
            all_goals (conv => whnf)
            all_goals refine FinSt.ret (by (try dsimp only); (try simp only [List.cons_append, List.nil_append]); (repeat (first | with_reducible exact List.Sublist.refl _ | with_reducible exact List.nil_sublist _ | with_reducible apply List.Sublist.cons_cons | with_reducible apply sub_app | apply List.Sublist.cons_cons | apply sub_app | with_reducible apply List.Sublist.cons | with_reducible apply sub_skip))) ?_
            all_goals rfl
  · rw [show encV x = ([], 90) from if_neg hxo] at e18x
    have hch := chk_no hxo
    refine GSpec.enter (fn := Try.f6) Try.func6 rfl (by kernel_rfl) ?_
    repeat' (conv => whnf
             first
             | ((with_reducible refine CallSt.rd (f := 17) (X := .bool true) ?_ ?_); (· exact f17 _ _))
             | ((with_reducible refine CallSt.rd (f := 18) (X := strE ([], 90)) ?_ ?_); (· exact e18x _ _))
             | ((with_reducible refine CallSt.rd (f := 22) (X := .int .i64 90) ?_ ?_); (· rw [← hch]; exact f22L x hxb _ _))
             | ((with_reducible refine Cmp.yes rfl ?_))
             | (with_reducible refine NextSt.mk ?_)
             | (with_reducible refine OnBB.tt ?_)
             | (with_reducible refine OnBB.ff ?_)
             | ((with_reducible apply Cmp.yes); · first | omega | (with_reducible assumption) | (with_reducible rfl))
             | ((with_reducible apply LoadSt.boxAgg); · (repeat (first | exact List.Mem.head _ | with_reducible apply List.mem_append_right | with_reducible apply List.mem_cons_of_mem)))
             | ((with_reducible refine AllocSt.mk ?_); intro _b _hb _hbO))
    conv => whnf
    refine FinSt.ret (by (try dsimp only); (try simp only [List.cons_append, List.nil_append]); (repeat (first | with_reducible exact List.Sublist.refl _ | with_reducible exact List.nil_sublist _ | with_reducible apply List.Sublist.cons_cons | with_reducible apply sub_app | apply List.Sublist.cons_cons | apply sub_app | with_reducible apply List.Sublist.cons | with_reducible apply sub_skip))) ?_
    rfl
end Go.Proofs.Ytlbmlimaobkhpaa
