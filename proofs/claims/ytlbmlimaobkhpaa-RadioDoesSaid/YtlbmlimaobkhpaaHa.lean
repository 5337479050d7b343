/- Functions of the reference: books, parts. -/
import Derived.Test.YtlbmlimaobkhpaaLe
import Derived.Test.YtlbmlimaobkhpaaKa
import Derived.Test.YtlbmlimaobkhpaaRf
import Derived.Test.YtlbmlimaobkhpaaOf
import Derived.Test.YtlbmlimaobkhpaaGd
set_option linter.unusedVariables false
set_option linter.unusedSimpArgs false
set_option linter.unusedSectionVars false
/- The reference's books: parts. -/
namespace Go.Proofs.Ytlbmlimaobkhpaa
open Go Go.Gv
set_option maxRecDepth 100000
set_option maxHeartbeats 4000000
set_option linter.unusedSimpArgs false
set_option linter.unusedVariables false
theorem f125 (n : Nat) (hn : n < 1000000) (h : View) (O : Hp) : GSpec Try.prog 125 [iN n] h O (Ret O (iN (secN n))) := by
  refine GSpec.enter (fn := Try.f125) Try.func125 rfl (by kernel_rfl) ?_
  repeat' (conv => whnf
           first
           | (with_reducible refine NextSt.mk ?_)
           | ((with_reducible apply NW.addN); (· first | with_reducible rfl | exact natL _); (· first | with_reducible rfl | exact natL _); (· omega))
           | ((with_reducible apply DivSt.quoN); (· with_reducible rfl); (· exact natL _); (· omega)))
  conv => whnf
  refine FinSt.ret (by (try dsimp only); (try simp only [List.cons_append, List.nil_append]); (repeat (with_reducible exact List.Sublist.refl _))) ?_
  rfl
theorem f160 (n : Nat) (hn : n < 4294967296) (h : View) (O : Hp) : GSpec Try.prog 160 [iN n] h O (Ret O (sV ((four n).map UInt8.ofNat))) := by
  have e : four n = [n % 256, n / 256 % 256, n / 65536 % 256, n / 16777216] := by
    have h4 : n / 16777216 % 256 = n / 16777216 := Nat.mod_eq_of_lt (by omega)
    simp [four, List.range, List.range.loop, h4]
  rw [e]
  refine GSpec.enter (fn := Try.f160) Try.func160 rfl (by kernel_rfl) ?_
  repeat' (conv => whnf
           first
           | ((refine ToStr.bytes (l := [n % 256, n / 256 % 256, n / 65536 % 256, n / 16777216]) (Rd.own0 (List.Mem.head _)) ?_ rfl ?_); (· intro x hx; simp only [List.mem_cons, List.not_mem_nil, or_false] at hx; omega))
           | (with_reducible refine NextSt.mk ?_)
           | ((with_reducible apply NW.u8N); (· with_reducible rfl); (· omega))
           | ((with_reducible refine AllocSt.mk ?_); intro _b _hb _hbO)
           | ((with_reducible apply DivSt.quoN); (· with_reducible rfl); (· exact natL _); (· omega))
           | ((with_reducible apply DivSt.remN); (· with_reducible rfl); (· exact natL _); (· omega)))
  exact FinSt.ret (List.Sublist.cons _ (List.Sublist.refl _)) rfl
/-- So many bytes of a string from one on, filled up with zeros. -/
def partV (s : Str) (a n : Nat) : Str := (pad n ((nb s).drop a)).map UInt8.ofNat
theorem partV_eq (s : Str) (a n : Nat) : partV s a n = (s.drop a).take n ++ List.replicate (n - min (s.length - a) n) 0 := by
  unfold partV pad
  rw [List.map_append, List.map_take, List.map_drop, ofNat_nb, List.map_replicate, List.length_drop, nb_len]
  rfl
theorem f159 (s : Str) (a n : Nat) (hs : s.length < 1000000) (ha : a < 1000000) (hn : n ≤ 1000) (h : View) (O : Hp) : GSpec Try.prog 159 [sV s, iN a, .int .i64 (n : Nat)] h O (Ret O (sV (partV s a n))) := by
  rw [partV_eq]
  by_cases hal : a < s.length
  · have e1 : (s.take (min (a + n) s.length)).drop a = (s.drop a).take n := by
      rw [List.drop_take]
      by_cases hx : a + n ≤ s.length
      · rw [Nat.min_eq_left hx, Nat.add_sub_cancel_left]
      · rw [Nat.min_eq_right (by omega), List.take_of_length_le (by rw [List.length_drop]; omega), List.take_of_length_le (by rw [List.length_drop]; omega)]
    have e2 : ((s.drop a).take n).length = min (s.length - a) n := by rw [List.length_take, List.length_drop, Nat.min_comm]
    refine GSpec.enter (fn := Try.f159) Try.func159 rfl (by kernel_rfl) ?_
    repeat' (conv => whnf
             first
             | (((apply StrSl.lohi (n := a) (m := min (a + n) s.length)); (· rfl); (· rfl); (· omega); (· omega)); rw [e1])
             | ((refine NW.subN (a := n) (b := min (s.length - a) n) rfl (by rw [e2]) (by omega) ?_))
             | ((with_reducible refine CallSt.rd (f := 102) (X := sV (List.replicate (n - min (s.length - a) n) 0)) ?_ ?_); (· exact f102 _ (by omega) _ _))
             | (with_reducible refine NextSt.mk ?_)
             | (with_reducible refine OnBB.tt ?_)
             | ((with_reducible apply NW.addN); (· with_reducible rfl); (· with_reducible rfl); (· omega))
             | ((with_reducible apply Cmp.yes); · omega)
             | ((with_reducible apply MinMax.minN); (· with_reducible rfl); (· with_reducible rfl))
             | ((with_reducible apply StrAdd.mk); · ((simp only [List.length_map, List.length_append, List.length_cons, List.length_nil, List.length_take, List.length_drop, List.length_replicate, List.length_set] at *; omega))))
    conv => whnf
    refine FinSt.ret (by (try dsimp only); (try simp only [List.cons_append, List.nil_append]); (repeat (with_reducible exact List.Sublist.refl _))) ?_
    rfl
  · rw [List.drop_of_length_le (by omega), List.take_nil, List.nil_append, show n - min (s.length - a) n = n by omega]
    refine GSpec.enter (fn := Try.f159) Try.func159 rfl (by kernel_rfl) ?_
    repeat' (conv => whnf
             first
             | ((refine NW.subN (a := n) (b := 0) rfl rfl (by omega) ?_); rw [Nat.sub_zero])
             | ((with_reducible refine CallSt.rd (f := 102) (X := sV (List.replicate n 0)) ?_ ?_); (· exact f102 _ (by omega) _ _))
             | (with_reducible refine NextSt.mk ?_)
             | (with_reducible refine OnBB.ff ?_)
             | ((with_reducible apply Cmp.no); · omega)
             | ((with_reducible apply StrAdd.mk); · ((simp only [List.length_map, List.length_append, List.length_cons, List.length_nil, List.length_take, List.length_drop, List.length_replicate, List.length_set] at *; omega))))
    conv => whnf
    refine FinSt.ret (by (try dsimp only); (try simp only [List.cons_append, List.nil_append]); (repeat (with_reducible exact List.Sublist.refl _))) ?_
    rfl
/-- A book's own block. -/
abbrev bke (p : Nat) (L : Value) (q at_ falls : Nat) : Nat × Obj := (p, .cells ⟨[L, .pointer (some ⟨q, 0, none⟩), iN falls, iN at_]⟩ 169 (0, 0))
theorem f131 (p : Nat) (L : Value) (r : Dr) (d : Dk) (at_ falls : Nat) (G : Hp) (h : View) : GSpec Try.prog 131 [pP p] h (eHp r d ++ (bke p L r.p at_ falls :: G)) (Ret (eHp r d ++ (bke p L r.p at_ falls :: G)) (.bool (decide (falls ≠ d.falls ∨ d.off = true)))) := by
  unfold eHp
  by_cases h1 : falls = d.falls
  · cases ho : d.off with
    | true =>
      rw [show decide (falls ≠ d.falls ∨ true = true) = true from decide_eq_true (.inr rfl), Bool.not_true]
      refine GSpec.enter (fn := Try.f131) Try.func131 rfl (by kernel_rfl) ?_
      repeat' (conv => whnf
               first
               | ((with_reducible refine DrawSt.walk [0, 1, 2, 3, 4, 5, 6, 7, 8, 9, 10, 11, 12, 13, 14, 15, 16, 17, 18, 19, 20, 21, 22] mixed ?_ ?_); · decide +kernel)
               | (with_reducible refine NextSt.mk ?_)
               | (with_reducible refine OnBB.ff ?_)
               | ((with_reducible apply Cmp.no); · omega)
               | ((with_reducible apply LoadSt.box); · (repeat (first | exact List.Mem.head _ | with_reducible apply List.mem_append_right))))
      conv => whnf
      refine FinSt.ret (by (try dsimp only); (try simp only [List.cons_append, List.nil_append]); (repeat (with_reducible exact List.Sublist.refl _))) ?_
      rfl
    | false =>
      rw [show decide (falls ≠ d.falls ∨ false = true) = false from decide_eq_false (fun hx => hx.elim (fun hx => hx h1) (by decide)), Bool.not_false]
      refine GSpec.enter (fn := Try.f131) Try.func131 rfl (by kernel_rfl) ?_
      repeat' (conv => whnf
               first
               | ((with_reducible refine DrawSt.walk [0, 1, 2, 3, 4, 5, 6, 7, 8, 9, 10, 11, 12, 13, 14, 15, 16, 17, 18, 19, 20, 21, 22] mixed ?_ ?_); · decide +kernel)
               | (with_reducible refine NextSt.mk ?_)
               | (with_reducible refine OnBB.tt ?_)
               | (with_reducible refine OnBB.ff ?_)
               | ((with_reducible apply Cmp.no); · omega)
               | ((with_reducible apply LoadSt.box); · (repeat (first | exact List.Mem.head _ | with_reducible apply List.mem_append_right))))
      conv => whnf
      refine FinSt.ret (by (try dsimp only); (try simp only [List.cons_append, List.nil_append]); (repeat (with_reducible exact List.Sublist.refl _))) ?_
      rfl
  · rw [show decide (falls ≠ d.falls ∨ d.off = true) = true from decide_eq_true (.inl h1)]
    refine GSpec.enter (fn := Try.f131) Try.func131 rfl (by kernel_rfl) ?_
    repeat' (conv => whnf
             first
             | ((with_reducible refine DrawSt.walk [0, 1, 2, 3, 4, 5, 6, 7, 8, 9, 10, 11, 12, 13, 14, 15, 16, 17, 18, 19, 20, 21, 22] mixed ?_ ?_); · decide +kernel)
             | (with_reducible refine NextSt.mk ?_)
             | (with_reducible refine OnBB.tt ?_)
             | ((with_reducible apply Cmp.yes); · omega)
             | ((with_reducible apply LoadSt.box); · (repeat (first | exact List.Mem.head _ | with_reducible apply List.mem_append_right))))
    conv => whnf
    refine FinSt.ret (by (try dsimp only); (try simp only [List.cons_append, List.nil_append]); (repeat (with_reducible exact List.Sublist.refl _))) ?_
    rfl
end Go.Proofs.Ytlbmlimaobkhpaa
/- The reference's books: writing a record. -/
namespace Go.Proofs.Ytlbmlimaobkhpaa
open Go Go.Gv
set_option maxRecDepth 100000
set_option maxHeartbeats 4000000
set_option linter.unusedSimpArgs false
set_option linter.unusedVariables false
/-- A record that is written by a book that knows of so many falls. -/
def ekV (d : Dk) (falls at_ : Nat) (p : Str) : Dk × Int := if falls ≠ d.falls ∨ d.off = true then (d, 93) else keepV d at_ p
def KeepE (p : Nat) (L : Value) (r : Dr) (X : Dk × Int) (at_ falls n : Nat) (v : Value) (O' : Hp) : Prop :=
  ∃ r', r'.p = r.p ∧ dOk r' X.1 ∧ O' = eHp r' X.1 ++ [bke p L r.p (if X.2 = 0 then at_ + n else at_) falls] ∧ v = .int .i64 X.2
theorem KeepE.no {p : Nat} {L : Value} {r : Dr} {at_ falls n : Nat} {sb wb : Buf} {x y : Dk × Int} (hk : dOk ⟨r.p, sb, wb⟩ x.1) (e : y = x) (h : x.2 ≠ 0) : KeepE p L r y at_ falls n (.int .i64 x.2) (eHp ⟨r.p, sb, wb⟩ x.1 ++ [bke p L r.p at_ falls]) := by
  unfold KeepE
  rw [e, if_neg h]
  exact ⟨⟨r.p, sb, wb⟩, rfl, hk, rfl, rfl⟩
theorem KeepE.yes {p : Nat} {L : Value} {r : Dr} {at_ falls n : Nat} {sb wb : Buf} {x y : Dk × Int} (hk : dOk ⟨r.p, sb, wb⟩ x.1) (e : y = x) (h : x.2 = 0) : KeepE p L r y at_ falls n (.int .i64 0) (eHp ⟨r.p, sb, wb⟩ x.1 ++ [bke p L r.p (at_ + n) falls]) := by
  unfold KeepE
  rw [e, if_pos h, h]
  exact ⟨⟨r.p, sb, wb⟩, rfl, hk, rfl, rfl⟩
theorem part_laid {p : Str} {k : Nat} (h : k < secN p.length - 1) : partV p (59 + 64 * k) 64 = ((laidV p).drop 1).getD k [] := by
  rw [List.getD_eq_getElem?_getD, List.getElem?_drop, ← List.getD_eq_getElem?_getD, Nat.add_comm 1 k, laidV_at (by omega)]
  rfl
theorem head_laid (p : Str) : (four p.length).map UInt8.ofNat ++ partV p 0 59 ++ [1] = (laidV p).getD 0 [] := by
  rw [laidV_hd]
  show _ = (sec0 (nb p)).map UInt8.ofNat
  unfold sec0 partV
  rw [List.map_append, List.map_append, nb_len, List.drop_zero, List.append_assoc]
  rfl
theorem f135 (p : Nat) (L : Value) (r : Dr) (d : Dk) (at_ falls B : Nat) (pay : Str) (hp : pay.length < 1000000) (hat : at_ < 100000000) (hd : d.okB B) (hB : B + secN pay.length + 3 < 1000000000) (hk : dOk r d) (h : View) :
    GSpec Try.prog 135 [pP p, sV pay] h (eHp r d ++ [bke p L r.p at_ falls]) (fun v _ O' => KeepE p L r (ekV d falls at_ pay) at_ falls (secN pay.length) v O') := by
  have hsz := hd.size
  have hsec : 1 ≤ secN pay.length ∧ secN pay.length < 100000 := by unfold secN; omega
  have hsd : secN pay.length = 1 + (pay.length + 4) / 64 := rfl
  have e131 := f131 p L r d at_ falls [] h
  by_cases hdn : falls ≠ d.falls ∨ d.off = true
  · rw [show ekV d falls at_ pay = (d, 93) from if_pos hdn]
    rw [decide_eq_true hdn] at e131
    refine GSpec.enter (fn := Try.f135) Try.func135 rfl (by kernel_rfl) ?_
    repeat' (conv => whnf
             first
             | ((with_reducible refine CallSt.rd (f := 125) (X := iN (secN pay.length)) ?_ ?_); (· exact f125 _ hp _ _))
             | ((with_reducible refine CallSt.rd (f := 131) (X := .bool true) ?_ ?_); (· exact e131))
             | (with_reducible refine NextSt.mk ?_)
             | (with_reducible refine OnBB.tt ?_))
    refine FinSt.own (R := KeepE p L r (d, 93) at_ falls (secN pay.length)) (O1 := eHp r d ++ [bke p L r.p at_ falls]) (by (try dsimp only); (try simp only [List.cons_append, List.nil_append]); (repeat (with_reducible exact List.Sublist.refl _))) ?_
    exact KeepE.no (x := (d, 93)) (sb := r.sb) (wb := r.wb) hk rfl (show (93 : Int) ≠ 0 by decide)
  · rw [decide_eq_false hdn] at e131
    by_cases hfull : d.safe.length < at_ + secN pay.length
    · have e : ekV d falls at_ pay = (d, 94) := by
        unfold ekV keepV
        rw [if_neg hdn, if_pos hfull]
      rw [e]
      refine GSpec.enter (fn := Try.f135) Try.func135 rfl (by kernel_rfl) ?_
      repeat' (conv => whnf
               first
               | ((with_reducible refine CallSt.rd (f := 125) (X := iN (secN pay.length)) ?_ ?_); (· exact f125 _ hp _ _))
               | ((with_reducible refine CallSt.rd (f := 131) (X := .bool false) ?_ ?_); (· exact e131))
               | ((with_reducible refine CallG.rd (f := 50) (X := iN d.safe.length) ?_ ?_); (· exact GSpec.locRet (by (repeat (with_reducible exact Loc.hd))) (f50 r d _)))
               | ((with_reducible refine DrawSt.walk [0, 1, 2, 3, 4, 5, 6, 7, 8, 9, 10, 11] mixed ?_ ?_); · decide +kernel)
               | (with_reducible refine NextSt.mk ?_)
               | (with_reducible refine OnBB.tt ?_)
               | (with_reducible refine OnBB.ff ?_)
               | ((with_reducible apply NW.addN); (· with_reducible rfl); (· with_reducible rfl); (· omega))
               | ((with_reducible apply Cmp.yes); · omega)
               | ((with_reducible apply LoadSt.box); · (repeat (first | exact List.Mem.head _ | with_reducible apply List.mem_append_right))))
      refine FinSt.own (R := KeepE p L r (d, 94) at_ falls (secN pay.length)) (O1 := eHp r d ++ [bke p L r.p at_ falls]) (by (try dsimp only); (try simp only [List.cons_append, List.nil_append]); (repeat (with_reducible exact List.Sublist.refl _))) ?_
      exact KeepE.no (x := (d, 94)) (sb := r.sb) (wb := r.wb) hk rfl (show (94 : Int) ≠ 0 by decide)
    · have e : ekV d falls at_ pay = d.ops (kops d.safe.length at_ pay) := by
        unfold ekV keepV
        rw [if_neg hdn, if_neg hfull]
      rw [e]
      have hwl := wrs_len at_ pay
      refine GSpec.enter (fn := Try.f135) Try.func135 rfl (by kernel_rfl) ?_
      repeat' (conv => whnf
               first
               | ((with_reducible refine CallSt.rd (f := 125) (X := iN (secN pay.length)) ?_ ?_); (· exact f125 _ hp _ _))
               | ((with_reducible refine CallSt.rd (f := 131) (X := .bool false) ?_ ?_); (· exact e131))
               | ((with_reducible refine CallG.rd (f := 50) (X := iN d.safe.length) ?_ ?_); (· exact GSpec.locRet (by (repeat (with_reducible exact Loc.hd))) (f50 r d _)))
               | ((with_reducible refine DrawSt.walk [0, 1, 2, 3, 4, 5, 6, 7, 8, 9, 10, 11] mixed ?_ ?_); · decide +kernel)
               | (with_reducible refine NextSt.mk ?_)
               | (with_reducible refine OnBB.ff ?_)
               | ((with_reducible apply NW.addN); (· with_reducible rfl); (· with_reducible rfl); (· omega))
               | ((with_reducible apply Cmp.no); · omega)
               | ((with_reducible apply LoadSt.box); · (repeat (first | exact List.Mem.head _ | with_reducible apply List.mem_append_right))))
      refine LoopSt.fix [4, 6, 7, 27, 28, 29, 30, 31, 32, 33, 34, 35, 36, 37, 38, 39, 40, 41, 42, 43, 44, 45, 46, 47, 48, 49, 50, 51] (fun ((k, sb, wb) : Nat × Buf × Buf) => [(6, iN (k + 1))]) (fun (k, sb, wb) => eHp ⟨r.p, sb, wb⟩ (d.ops ((wrs at_ pay).take k)).1 ++ [bke p L r.p at_ falls]) (fun (k, sb, wb) => k ≤ secN pay.length - 1 ∧ dOk ⟨r.p, sb, wb⟩ (d.ops ((wrs at_ pay).take k)).1 ∧ (d.ops ((wrs at_ pay).take k)).2 = 0) (fun (k, sb, wb) => secN pay.length - k) ((0, r.sb, r.wb)) _ (Wk.refl _ _) (rfl) ?_ ?_ ?_
      · repeat' (first | exact True.intro | refine And.intro ?_ ?_ | rfl)
      · exact ⟨Nat.zero_le _, hk, rfl⟩
      · rintro ⟨k, sb, wb⟩ d' ⟨hk1, hk2, hk3⟩
        dsimp only at hk1 hk2 hk3 ⊢
        by_cases hkm : k < secN pay.length - 1
        · have hgl := laidV_get1 pay k
          have hoo := hd.ops ((wrs at_ pay).take k)
          rw [List.length_take] at hoo
          have hpk := part_laid hkm
          have e159 := fun h O => f159 pay (59 + 64 * k) 64 hp (by omega) (by decide) h O
          rw [hpk] at e159
          repeat' (conv => whnf
                   first
                   | ((with_reducible refine CallG.rd (f := 159) (X := sV (((laidV pay).drop 1).getD k [])) ?_ ?_); (· rw [Nat.add_sub_cancel]; exact e159 _ _))
                   | (((with_reducible apply CallSt.loc (f := 38) (H := eHp _ _)); (· (repeat (with_reducible exact Loc.hd))); (· exact f38 _ _ _ _ (by (exact Dk.okB.ok (by repeat (assumption)) (by omega))) (by omega) (by assumption) _); rintro _ _ ⟨⟨_p, _sb, _wb⟩, _hp, rfl, _hk, rfl⟩; (obtain rfl : _p = _ := _hp)))
                   | ((with_reducible refine DrawSt.walkT [0, 1, 2, 3, 4, 5, 6, 7, 8, 9, 10, 11, 12, 13, 14, 15] 16 [17] mixed ?_ ?_); · decide +kernel)
                   | (with_reducible refine NextSt.mk ?_)
                   | (with_reducible refine OnBB.tt ?_)
                   | (with_reducible refine OnBB.ff ?_)
                   | ((with_reducible apply NW.addN); (· first | with_reducible rfl | exact natL _); (· first | with_reducible rfl | exact natL _); (· omega))
                   | ((with_reducible apply NW.subN); (· with_reducible rfl); (· exact natL _); (· omega))
                   | ((with_reducible apply NW.mulN); (· exact natL _); (· with_reducible rfl); (· omega))
                   | ((with_reducible apply Cmp.yes); · omega)
                   | ((with_reducible apply LoadSt.box); · (repeat (first | exact List.Mem.head _ | with_reducible apply List.mem_append_right)))
                   | ((with_reducible refine Cmp.mk ?_ ?_) <;> intro _hc))
          all_goals have hts : d.ops ((wrs at_ pay).take (k + 1)) = (d.ops ((wrs at_ pay).take k)).1.write ((at_ + (k + 1) : Nat) : Int) (((laidV pay).drop 1).getD k []) := by rw [Dk.ops_take (by omega) hk3, wrs_get hkm, show at_ + 1 + k = at_ + (k + 1) by omega]; rfl
          · refine FinSt.own (R := KeepE p L r _ at_ falls (secN pay.length)) (O1 := eHp ⟨r.p, _sb, _wb⟩ _ ++ [bke p L r.p at_ falls]) (by (try dsimp only); (try simp only [List.cons_append, List.nil_append]); (repeat (with_reducible exact List.Sublist.refl _))) (KeepE.no _hk ?_ _hc)
            rw [← hts]
            have h5 : kops d.safe.length at_ pay = wrs at_ pay ++ ((if at_ + secN pay.length < d.safe.length then [some (at_ + secN pay.length, zs)] else []) ++ [none, some (at_, (laidV pay).getD 0 []), none]) := rfl
            rw [h5]
            exact Dk.ops_stop (by rw [hts]; exact _hc) _
          · rw [← hts] at _hk _hc ⊢
            refine RoundFix.mk ((k + 1, _sb, _wb)) ?_ ?_ _ rfl (Wk.drop (by (try dsimp only); (try simp only [List.cons_append, List.nil_append]); (repeat (with_reducible exact List.Sublist.refl _)))) ?_
            · dsimp only; omega
            · repeat' (first | exact True.intro | refine And.intro ?_ ?_ | rfl)
            · exact ⟨by omega, _hk, Classical.not_not.1 _hc⟩
        · have hall : (wrs at_ pay).take k = wrs at_ pay := List.take_of_length_le (by omega)
          rw [hall] at hk2 hk3 ⊢
          have hd1 := hd.ops (wrs at_ pay)
          have hl1 := Dk.ops_len (wrs at_ pay) d
          have e1 : d.ops (kops d.safe.length at_ pay) = (d.ops (wrs at_ pay)).1.ops ((if at_ + secN pay.length < d.safe.length then [some (at_ + secN pay.length, zs)] else []) ++ [none, some (at_, (laidV pay).getD 0 []), none]) := by rw [kops, Dk.ops_app, if_pos hk3]
          have hg0 := laidV_get pay 0
          have hf4 : (four pay.length).length = 4 := by simp [four]
          have hf5 : (partV pay 0 59).length = 59 := by unfold partV; rw [List.length_map, pad_len]
          have hzs : zs.length = 64 := zs_len
          generalize (d.ops (wrs at_ pay)).1 = d1 at hk2 hk3 hd1 hl1 e1 ⊢
          by_cases hz : at_ + secN pay.length < d.safe.length
          · rw [if_pos hz, List.singleton_append, Dk.seq4] at e1
            repeat' (conv => whnf
                     first
                     | (((with_reducible apply CallG.rd (f := 50)); (· (apply GSpec.locRet (H := eHp _ _)); (· (repeat (with_reducible exact Loc.hd))); (· exact f50 _ _ _))))
                     | ((with_reducible refine CallG.rd (f := 102) (X := sV zs) ?_ ?_); (· exact f102 64 (by decide) _ _))
                     | ((with_reducible refine CallG.rd (f := 160) (X := sV ((four pay.length).map UInt8.ofNat)) ?_ ?_); (· exact f160 _ (by omega) _ _))
                     | ((with_reducible refine CallG.rd (f := 159) (X := sV (partV pay 0 59)) ?_ ?_); (· exact f159 pay 0 59 hp (by decide) (by decide) _ _))
                     | ((rw [head_laid]); ((with_reducible apply CallSt.loc (f := 38) (H := eHp _ _)); (· (repeat (with_reducible exact Loc.hd))); (· exact f38 _ _ _ _ (by (exact Dk.okB.ok (by repeat (first | assumption | with_reducible apply Dk.okB.write | with_reducible apply Dk.okB.sync)) (by omega))) (by omega) (by assumption) _); rintro _ _ ⟨⟨_p, _sb, _wb⟩, _hp, rfl, _hk, rfl⟩; (obtain rfl : _p = _ := _hp)))
                     | (((with_reducible apply CallSt.loc (f := 38) (H := eHp _ _)); (· (repeat (with_reducible exact Loc.hd))); (· exact f38 _ _ _ _ (by (exact Dk.okB.ok (by repeat (assumption)) (by omega))) (by omega) (by assumption) _); rintro _ _ ⟨⟨_p, _sb, _wb⟩, _hp, rfl, _hk, rfl⟩; (obtain rfl : _p = _ := _hp)))
                     | (((with_reducible apply CallSt.loc (f := 40) (H := eHp _ _)); (· (repeat (with_reducible exact Loc.hd))); (· exact f40 _ _ (by (exact Dk.okB.ok (by repeat (first | assumption | with_reducible apply Dk.okB.write | with_reducible apply Dk.okB.sync)) (by omega))) (by assumption) _); rintro _ _ ⟨⟨_p, _sb, _wb⟩, _hp, rfl, _hk, rfl⟩; (obtain rfl : _p = _ := _hp)))
                     | ((with_reducible refine DrawSt.walkT [0, 1, 2, 3, 4, 5, 6, 7, 8, 9, 11, 10, 12, 13, 14] 15 [16] mixed ?_ ?_); · decide +kernel)
                     | ((with_reducible refine DrawSt.walkT [0, 1, 2, 3, 4, 5, 6, 7, 8, 9, 10] 11 [12] mixed ?_ ?_); · decide +kernel)
                     | ((with_reducible refine DrawSt.walk [0, 1, 2, 3, 4, 5, 6, 7, 8, 9, 10, 11] mixed ?_ ?_); · decide +kernel)
                     | (with_reducible refine NextSt.mk ?_)
                     | (with_reducible refine OnBB.tt ?_)
                     | (with_reducible refine OnBB.ff ?_)
                     | ((with_reducible apply NW.addN); (· with_reducible rfl); (· with_reducible rfl); (· omega))
                     | ((with_reducible apply Cmp.yes); · omega)
                     | ((with_reducible apply Cmp.no); · omega)
                     | ((with_reducible apply LoadSt.box); · (repeat (first | exact List.Mem.head _ | with_reducible apply List.mem_append_right)))
                     | ((with_reducible apply StoreSt.box); (· (repeat (first | exact Upd.hd | apply Upd.tl | apply Upd.app))); (· rfl); (· rfl); (· rfl))
                     | ((with_reducible apply StrAdd.mk); · ((simp only [List.length_map, List.length_append, List.length_cons, List.length_nil, List.length_take, List.length_drop, List.length_replicate, List.length_set] at *; omega)))
                     | ((with_reducible refine Cmp.mk ?_ ?_) <;> intro _hc))
            all_goals
              clear e hsd
              simp only [Classical.not_not] at *
              simp only [*, if_true, if_false] at e1
              first
              | exact FinSt.own (R := KeepE p L r (d.ops (kops d.safe.length at_ pay)) at_ falls (secN pay.length)) (O1 := eHp ⟨r.p, _sb, _wb⟩ _ ++ [bke p L r.p at_ falls]) (by (try dsimp only); (try simp only [List.cons_append, List.nil_append]); (repeat (first | with_reducible exact List.Sublist.refl _ | apply List.Sublist.cons_cons | apply sub_app | with_reducible apply List.Sublist.cons))) (KeepE.no _hk e1 (by assumption))
              | exact FinSt.own (R := KeepE p L r (d.ops (kops d.safe.length at_ pay)) at_ falls (secN pay.length)) (O1 := eHp ⟨r.p, _sb, _wb⟩ _ ++ [bke p L r.p (at_ + secN pay.length) falls]) (by (try dsimp only); (try simp only [List.cons_append, List.nil_append]); (repeat (first | with_reducible exact List.Sublist.refl _ | apply List.Sublist.cons_cons | apply sub_app))) (KeepE.yes _hk e1 (by assumption))
          · rw [if_neg hz, List.nil_append, Dk.seq3] at e1
            repeat' (conv => whnf
                     first
                     | (((with_reducible apply CallG.rd (f := 50)); (· (apply GSpec.locRet (H := eHp _ _)); (· (repeat (with_reducible exact Loc.hd))); (· exact f50 _ _ _))))
                     | ((with_reducible refine CallG.rd (f := 160) (X := sV ((four pay.length).map UInt8.ofNat)) ?_ ?_); (· exact f160 _ (by omega) _ _))
                     | ((with_reducible refine CallG.rd (f := 159) (X := sV (partV pay 0 59)) ?_ ?_); (· exact f159 pay 0 59 hp (by decide) (by decide) _ _))
                     | ((rw [head_laid]); ((with_reducible apply CallSt.loc (f := 38) (H := eHp _ _)); (· (repeat (with_reducible exact Loc.hd))); (· exact f38 _ _ _ _ (by (exact Dk.okB.ok (by repeat (first | assumption | with_reducible apply Dk.okB.sync)) (by omega))) (by omega) (by assumption) _); rintro _ _ ⟨⟨_p, _sb, _wb⟩, _hp, rfl, _hk, rfl⟩; (obtain rfl : _p = _ := _hp)))
                     | (((with_reducible apply CallSt.loc (f := 40) (H := eHp _ _)); (· (repeat (with_reducible exact Loc.hd))); (· exact f40 _ _ (by (exact Dk.okB.ok (by repeat (first | assumption | with_reducible apply Dk.okB.write | with_reducible apply Dk.okB.sync)) (by omega))) (by assumption) _); rintro _ _ ⟨⟨_p, _sb, _wb⟩, _hp, rfl, _hk, rfl⟩; (obtain rfl : _p = _ := _hp)))
                     | ((with_reducible refine DrawSt.walkT [0, 1, 2, 3, 4, 5, 6, 7, 8, 9, 11, 10, 12, 13, 14] 15 [16] mixed ?_ ?_); · decide +kernel)
                     | ((with_reducible refine DrawSt.walk [0, 1, 2, 3, 4, 5, 6, 7, 8, 9, 10, 11] mixed ?_ ?_); · decide +kernel)
                     | (with_reducible refine NextSt.mk ?_)
                     | (with_reducible refine OnBB.tt ?_)
                     | (with_reducible refine OnBB.ff ?_)
                     | ((with_reducible apply NW.addN); (· with_reducible rfl); (· with_reducible rfl); (· omega))
                     | ((with_reducible apply Cmp.no); · omega)
                     | ((with_reducible apply LoadSt.box); · (repeat (first | exact List.Mem.head _ | with_reducible apply List.mem_append_right)))
                     | ((with_reducible apply StoreSt.box); (· (repeat (first | exact Upd.hd | apply Upd.tl | apply Upd.app))); (· rfl); (· rfl); (· rfl))
                     | ((with_reducible apply StrAdd.mk); · ((simp only [List.length_map, List.length_append, List.length_cons, List.length_nil, List.length_take, List.length_drop, List.length_replicate, List.length_set] at *; omega)))
                     | ((with_reducible refine Cmp.mk ?_ ?_) <;> intro _hc))
            all_goals
              clear e hsd
              simp only [Classical.not_not] at *
              simp only [*, if_true, if_false] at e1
              first
              | exact FinSt.own (R := KeepE p L r (d.ops (kops d.safe.length at_ pay)) at_ falls (secN pay.length)) (O1 := eHp ⟨r.p, _sb, _wb⟩ _ ++ [bke p L r.p at_ falls]) (by (try dsimp only); (try simp only [List.cons_append, List.nil_append]); (repeat (first | with_reducible exact List.Sublist.refl _ | apply List.Sublist.cons_cons | apply sub_app | with_reducible apply List.Sublist.cons))) (KeepE.no _hk e1 (by assumption))
              | exact FinSt.own (R := KeepE p L r (d.ops (kops d.safe.length at_ pay)) at_ falls (secN pay.length)) (O1 := eHp ⟨r.p, _sb, _wb⟩ _ ++ [bke p L r.p (at_ + secN pay.length) falls]) (by (try dsimp only); (try simp only [List.cons_append, List.nil_append]); (repeat (first | with_reducible exact List.Sublist.refl _ | apply List.Sublist.cons_cons | apply sub_app))) (KeepE.yes _hk e1 (by assumption))
end Go.Proofs.Ytlbmlimaobkhpaa
/- The reference's books: a record is read. -/
namespace Go.Proofs.Ytlbmlimaobkhpaa
open Go Go.Gv
set_option maxRecDepth 100000
set_option maxHeartbeats 4000000
set_option linter.unusedSimpArgs false
set_option linter.unusedVariables false
theorem num_eq (s : Str) : num s = (nb s).getD 0 0 + 256 * (nb s).getD 1 0 + 65536 * (nb s).getD 2 0 + 16777216 * (nb s).getD 3 0 := by
  rw [nb_getD, nb_getD, nb_getD, nb_getD]
  unfold num
  simp only [numI]
  omega
theorem f122 (r : Dr) (d : Dk) (at_ B : Nat) (hat : at_ ≤ 100000) (hd : d.okB B) (hB : B < 1000000000) (hk : dOk r d) (h : View) :
    GSpec Try.prog 122 [dP r, iN at_] h (eHp r d) (Ret (eHp r d) (recR (recC (cont d) at_))) := by
  have hsz := hd.size
  have hcl := cont_len d
  have hcm := cont_mem hd
  by_cases ha : at_ < d.safe.length
  · have hread : ∀ a : Nat, a < d.safe.length → ∀ h, GSpec Try.prog 107 [dP r, iN a] h (eHp r d) (Ret (eHp r d) (sV ((cont d).getD a []))) := fun a ha h => by
      have := f107 r d a ha hsz (Nat.lt_of_le_of_lt hd.few.1 hB) hk h
      rwa [← cont_get ha] at this
    have h64 : ((cont d).getD at_ []).length = 64 := hcm _ (getD_mem' (by omega))
    have hmk := nb_getD ((cont d).getD at_ []) 63
    have e0 := hread at_ ha
    obtain ⟨s, hs⟩ : ∃ x, x = (cont d).getD at_ [] := ⟨_, rfl⟩
    rw [← hs] at h64 hmk e0
    have hnl := nb_len s
    have b0 : (nb s).getD 0 0 < 256 := nb_byt _ _ (getD_mem' (by omega))
    have b1 : (nb s).getD 1 0 < 256 := nb_byt _ _ (getD_mem' (by omega))
    have b2 : (nb s).getD 2 0 < 256 := nb_byt _ _ (getD_mem' (by omega))
    have b3 : (nb s).getD 3 0 < 256 := nb_byt _ _ (getD_mem' (by omega))
    have b63 : (nb s).getD 63 0 < 256 := nb_byt _ _ (getD_mem' (by omega))
    have hne := num_eq s
    by_cases hm : s.getD 63 0 = 1
    · have hm2 : (nb s).getD 63 0 = 1 := by rw [hmk, hm]; rfl
      have hrec : recC (cont d) at_ = if 1 ≤ num s ∧ num s ≤ 4096 ∧ at_ + secN (num s) ≤ d.safe.length then some ((restC (cont d) at_ (secN (num s))).take (num s)) else none := by
        unfold recC
        rw [← hs, hcl]
        by_cases hx : 1 ≤ num s ∧ num s ≤ 4096 ∧ at_ + secN (num s) ≤ d.safe.length
        · rw [if_pos hx, if_pos ⟨ha, hm, hx⟩]
        · rw [if_neg hx, if_neg (fun hy => hx hy.2.2)]
      rw [hrec]
      have hsn : secN (num s) = 1 + (num s + 4) / 64 := rfl
      by_cases hx : 1 ≤ num s ∧ num s ≤ 4096 ∧ at_ + secN (num s) ≤ d.safe.length
      · rw [if_pos hx]
        obtain ⟨hx1, hx2, hx3⟩ := hx
        have hr1 : restC (cont d) at_ 1 = (s.take 63).drop 4 := by
          unfold restC
          rw [← hs]; simp
        unfold eHp
        refine GSpec.enter (fn := Try.f122) Try.func122 rfl (by kernel_rfl) ?_
        repeat' (conv => whnf
                 first
                 | ((with_reducible refine CallSt.rd (f := 107) (X := sV s) ?_ ?_); (· exact e0 _))
                 | ((rw [← hne]); (with_reducible refine CallG.rd (f := 125) (X := iN (secN (num s))) ?_ ?_); (· exact f125 _ (by omega) _ _))
                 | ((with_reducible refine DrawSt.walk [0, 1, 2, 3, 4, 5, 6, 7, 8, 9, 10, 11, 12, 13, 14, 15, 16, 17, 18] mixed ?_ ?_); · decide +kernel)
                 | ((with_reducible refine DrawSt.walk [0, 1, 2, 3, 4, 5, 6, 7, 8, 9, 10, 11, 12, 13, 16, 17, 18, 19, 20, 14, 15, 21, 22] mixed ?_ ?_); · decide +kernel)
                 | (with_reducible refine NextSt.mk ?_)
                 | (with_reducible refine OnBB.ff ?_)
                 | ((with_reducible apply NW.addN); (· with_reducible rfl); (· with_reducible rfl); (· omega))
                 | ((with_reducible apply NW.mulN); (· exact natL _); (· with_reducible rfl); (· omega))
                 | ((with_reducible apply NW.i64N); (· with_reducible rfl); (· omega))
                 | ((with_reducible apply Cmp.no); · omega)
                 | ((with_reducible apply LoadSt.box); · (repeat (exact List.Mem.head _)))
                 | ((with_reducible apply StrIdx.m); (· exact natL _); · omega)
                 | ((with_reducible apply StrSl.lohi); (· exact natL _); (· exact natL _); (· (omega)); (· (omega))))
        rw [← hr1]
        refine LoopSt.fix [8, 9, 63, 64, 65, 66, 67, 68, 69, 70, 71, 72, 73, 74, 75] (fun (k : Nat) => [(8, sV (restC (cont d) at_ k)), (9, iN k)]) (fun _ => _) (fun k => 1 ≤ k ∧ k ≤ secN (num s)) (fun k => secN (num s) - k) (1) _ (Wk.refl _ _) (rfl) ?_ ?_ ?_
        · repeat' (first | exact True.intro | refine And.intro ?_ ?_ | rfl)
        · exact ⟨Nat.le_refl _, by omega⟩
        · rintro k d3 ⟨hk1, hk2⟩
          dsimp only at hk1 hk2 ⊢
          have hrl := restC_len hcm (a := at_) (by omega) k hk1 (by omega)
          by_cases hkl : k < secN (num s)
          · have e0k := hread (at_ + k) (by omega) h
            have hst := restC_succ (C := cont d) (a := at_) hk1
            have hck : ((cont d).getD (at_ + k) []).length = 64 := hcm _ (getD_mem' (by omega))
            obtain ⟨sk, hsk⟩ : ∃ x, x = (cont d).getD (at_ + k) [] := ⟨_, rfl⟩
            rw [← hsk] at e0k hst hck
            unfold eHp at e0k
            repeat' (conv => whnf
                     first
                     | ((with_reducible refine CallSt.rd (f := 125) (X := iN (secN (num s))) ?_ ?_); (· exact f125 _ (by omega) _ _))
                     | ((with_reducible refine CallSt.rd (f := 107) (X := sV sk) ?_ ?_); (· exact e0k))
                     | (with_reducible refine NextSt.mk ?_)
                     | (with_reducible refine OnBB.tt ?_)
                     | ((with_reducible apply NW.addN); (· with_reducible rfl); (· first | with_reducible rfl | exact natL _); (· omega))
                     | ((with_reducible apply Cmp.yes); · omega)
                     | ((with_reducible apply StrAdd.mk); · (omega)))
            rw [← hst]
            refine RoundFix.mk (k + 1) ?_ ?_ _ rfl (Wk.drop (by (try dsimp only); (try simp only [List.cons_append, List.nil_append]); (repeat (with_reducible exact List.Sublist.refl _)))) ?_
            · omega
            · repeat' (first | exact True.intro | refine And.intro ?_ ?_ | rfl)
            · exact ⟨by omega, by omega⟩
          · have : k = secN (num s) := by omega
            subst this
            repeat' (conv => whnf
                     first
                     | ((with_reducible refine CallSt.rd (f := 125) (X := iN (secN (num s))) ?_ ?_); (· exact f125 _ (by omega) _ _))
                     | (((apply StrSl.hi (n := num s)); (· rfl); (· omega)))
                     | (with_reducible refine NextSt.mk ?_)
                     | (with_reducible refine OnBB.ff ?_)
                     | ((with_reducible apply Cmp.no); · omega))
            conv => whnf
            refine FinSt.ret (by (try dsimp only); (try simp only [List.cons_append, List.nil_append]); (repeat (with_reducible exact List.Sublist.refl _))) ?_
            rfl
      · rw [if_neg hx]
        unfold eHp
        by_cases hx1 : 1 ≤ num s
        · by_cases hx2 : num s ≤ 4096
          · have hx3 : ¬ at_ + secN (num s) ≤ d.safe.length := fun h => hx ⟨hx1, hx2, h⟩
            refine GSpec.enter (fn := Try.f122) Try.func122 rfl (by kernel_rfl) ?_
            repeat' (conv => whnf
                     first
                     | ((with_reducible refine CallSt.rd (f := 107) (X := sV s) ?_ ?_); (· exact e0 _))
                     | ((rw [← hne]); (with_reducible refine CallG.rd (f := 125) (X := iN (secN (num s))) ?_ ?_); (· exact f125 _ (by omega) _ _))
                     | ((with_reducible refine DrawSt.walk [0, 1, 2, 3, 4, 5, 6, 7, 8, 9, 10, 11, 12, 13, 14, 15, 16, 17, 18] mixed ?_ ?_); · decide +kernel)
                     | ((with_reducible refine DrawSt.walk [0, 1, 2, 3, 4, 5, 6, 7, 8, 9, 10, 11, 12, 13, 16, 17, 18, 19, 20, 14, 15, 21, 22] mixed ?_ ?_); · decide +kernel)
                     | (with_reducible refine NextSt.mk ?_)
                     | (with_reducible refine OnBB.tt ?_)
                     | (with_reducible refine OnBB.ff ?_)
                     | ((with_reducible apply NW.addN); (· with_reducible rfl); (· with_reducible rfl); (· omega))
                     | ((with_reducible apply NW.mulN); (· exact natL _); (· with_reducible rfl); (· omega))
                     | ((with_reducible apply NW.i64N); (· with_reducible rfl); (· omega))
                     | ((with_reducible apply Cmp.yes); · omega)
                     | ((with_reducible apply Cmp.no); · omega)
                     | ((with_reducible apply LoadSt.box); · (repeat (exact List.Mem.head _)))
                     | ((with_reducible apply StrIdx.m); (· exact natL _); · omega))
            conv => whnf
            refine FinSt.ret (by (try dsimp only); (try simp only [List.cons_append, List.nil_append]); (repeat (with_reducible exact List.Sublist.refl _))) ?_
            rfl
          · refine GSpec.enter (fn := Try.f122) Try.func122 rfl (by kernel_rfl) ?_
            repeat' (conv => whnf
                     first
                     | ((with_reducible refine CallSt.rd (f := 107) (X := sV s) ?_ ?_); (· exact e0 _))
                     | ((with_reducible refine DrawSt.walk [0, 1, 2, 3, 4, 5, 6, 7, 8, 9, 10, 11, 12, 13, 14, 15, 16, 17, 18] mixed ?_ ?_); · decide +kernel)
                     | ((with_reducible refine DrawSt.walk [0, 1, 2, 3, 4, 5, 6, 7, 8, 9, 10, 11, 12, 13, 16, 17, 18, 19, 20, 14, 15, 21, 22] mixed ?_ ?_); · decide +kernel)
                     | (with_reducible refine NextSt.mk ?_)
                     | (with_reducible refine OnBB.tt ?_)
                     | (with_reducible refine OnBB.ff ?_)
                     | ((with_reducible apply NW.addN); (· with_reducible rfl); (· with_reducible rfl); (· omega))
                     | ((with_reducible apply NW.mulN); (· exact natL _); (· with_reducible rfl); (· omega))
                     | ((with_reducible apply NW.i64N); (· with_reducible rfl); (· omega))
                     | ((with_reducible apply Cmp.yes); · omega)
                     | ((with_reducible apply Cmp.no); · omega)
                     | ((with_reducible apply LoadSt.box); · (repeat (exact List.Mem.head _)))
                     | ((with_reducible apply StrIdx.m); (· exact natL _); · omega))
            conv => whnf
            refine FinSt.ret (by (try dsimp only); (try simp only [List.cons_append, List.nil_append]); (repeat (with_reducible exact List.Sublist.refl _))) ?_
            rfl
        · refine GSpec.enter (fn := Try.f122) Try.func122 rfl (by kernel_rfl) ?_
          repeat' (conv => whnf
                   first
                   | ((with_reducible refine CallSt.rd (f := 107) (X := sV s) ?_ ?_); (· exact e0 _))
                   | ((with_reducible refine DrawSt.walk [0, 1, 2, 3, 4, 5, 6, 7, 8, 9, 10, 11, 12, 13, 14, 15, 16, 17, 18] mixed ?_ ?_); · decide +kernel)
                   | ((with_reducible refine DrawSt.walk [0, 1, 2, 3, 4, 5, 6, 7, 8, 9, 10, 11, 12, 13, 16, 17, 18, 19, 20, 14, 15, 21, 22] mixed ?_ ?_); · decide +kernel)
                   | (with_reducible refine NextSt.mk ?_)
                   | (with_reducible refine OnBB.tt ?_)
                   | (with_reducible refine OnBB.ff ?_)
                   | ((with_reducible apply NW.addN); (· with_reducible rfl); (· with_reducible rfl); (· omega))
                   | ((with_reducible apply NW.mulN); (· exact natL _); (· with_reducible rfl); (· omega))
                   | ((with_reducible apply NW.i64N); (· with_reducible rfl); (· omega))
                   | ((with_reducible apply Cmp.yes); · omega)
                   | ((with_reducible apply Cmp.no); · omega)
                   | ((with_reducible apply LoadSt.box); · (repeat (exact List.Mem.head _)))
                   | ((with_reducible apply StrIdx.m); (· exact natL _); · omega))
          conv => whnf
          refine FinSt.ret (by (try dsimp only); (try simp only [List.cons_append, List.nil_append]); (repeat (with_reducible exact List.Sublist.refl _))) ?_
          rfl
    · have hm2 : (nb s).getD 63 0 ≠ 1 := fun hx => hm (by
        rw [hmk] at hx
        exact UInt8.toNat_inj.1 hx)
      rw [show recC (cont d) at_ = none from if_neg (by rw [← hs]; exact fun hx => hm hx.2.1)]
      unfold eHp
      refine GSpec.enter (fn := Try.f122) Try.func122 rfl (by kernel_rfl) ?_
      repeat' (conv => whnf
               first
               | ((with_reducible refine CallSt.rd (f := 107) (X := sV s) ?_ ?_); (· exact e0 _))
               | ((with_reducible refine DrawSt.walk [0, 1, 2, 3, 4, 5, 6, 7, 8, 9, 10, 11, 12, 13, 14, 15, 16, 17, 18] mixed ?_ ?_); · decide +kernel)
               | ((with_reducible refine DrawSt.walk [0, 1, 2, 3, 4, 5, 6, 7, 8, 9, 10, 11, 12, 13, 16, 17, 18, 19, 20, 14, 15, 21, 22] mixed ?_ ?_); · decide +kernel)
               | (with_reducible refine NextSt.mk ?_)
               | (with_reducible refine OnBB.tt ?_)
               | (with_reducible refine OnBB.ff ?_)
               | ((with_reducible apply NW.addN); (· with_reducible rfl); (· with_reducible rfl); (· omega))
               | ((with_reducible apply NW.mulN); (· exact natL _); (· with_reducible rfl); (· omega))
               | ((with_reducible apply NW.i64N); (· with_reducible rfl); (· omega))
               | ((with_reducible apply Cmp.yes); · omega)
               | ((with_reducible apply Cmp.no); · omega)
               | ((with_reducible apply LoadSt.box); · (repeat (exact List.Mem.head _)))
               | ((with_reducible apply StrIdx.m); (· exact natL _); · omega))
      conv => whnf
      refine FinSt.ret (by (try dsimp only); (try simp only [List.cons_append, List.nil_append]); (repeat (with_reducible exact List.Sublist.refl _))) ?_
      rfl
  · rw [show recC (cont d) at_ = none from if_neg (by rw [hcl]; exact fun hx => ha hx.1)]
    unfold eHp
    refine GSpec.enter (fn := Try.f122) Try.func122 rfl (by kernel_rfl) ?_
    repeat' (conv => whnf
             first
             | (with_reducible refine NextSt.mk ?_)
             | (with_reducible refine OnBB.tt ?_)
             | ((with_reducible apply Cmp.yes); · omega)
             | ((with_reducible apply LoadSt.box); · (repeat (exact List.Mem.head _))))
    conv => whnf
    refine FinSt.ret (by (try dsimp only); (try simp only [List.cons_append, List.nil_append]); (repeat (with_reducible exact List.Sublist.refl _))) ?_
    rfl
end Go.Proofs.Ytlbmlimaobkhpaa
/- The reference's books: changes. -/
namespace Go.Proofs.Ytlbmlimaobkhpaa
open Go Go.Gv
set_option maxRecDepth 100000
set_option maxHeartbeats 4000000
set_option linter.unusedSimpArgs false
set_option linter.unusedVariables false
theorem f128 (b : Br) (q at_ falls : Nat) (h : View) : GSpec Try.prog 128 [pP b.p] h (bke b.p (bkV b) q at_ falls :: lgc b :: lgHp b.ls) (Ret (bke b.p (bkV b) q at_ falls :: lgc b :: lgHp b.ls) (iN b.ls.length)) := by
  unfold bkV
  refine GSpec.enter (fn := Try.f128) Try.func128 rfl (by kernel_rfl) ?_
  repeat' (conv => whnf
           first
           | (with_reducible refine NextSt.mk ?_)
           | ((with_reducible apply LoadSt.box); · (repeat (exact List.Mem.head _))))
  conv => whnf
  refine FinSt.ret (by (try dsimp only); (try simp only [List.cons_append, List.nil_append]); (repeat (with_reducible exact List.Sublist.refl _))) ?_
  rfl
theorem f123 (b : Br) (q at_ falls : Nat) (e : En) (hw : wfL b.logs) (hl : lOk b.ls) (hb : e.body.length < 1000000) (h : View) :
    GSpec Try.prog 123 [pP b.p, .agg ⟨enV e⟩] h (bke b.p (bkV b) q at_ falls :: lgc b :: lgHp b.ls) (Ret (bke b.p (bkV b) q at_ falls :: lgc b :: lgHp b.ls) (.bool (decide (chg b.logs e)))) := by
  have hlen := logs_len b
  have hb8 := hw.len
  by_cases h1 : enOk e
  · have hch : chkE e = 0 := if_pos h1
    have e83 := fun h O => f83 e hb h O
    rw [hch] at e83
    by_cases h2 : e.office.toNat < b.ls.length
    · have hg := logs_get h2
      have hq := hl.get h2
      have hr := lgHp_rd hl h2 (w := h)
      have hlg := hw.log e.office.toNat (by omega)
      rw [hg] at hlg
      have hc : chg b.logs e ↔ (e.no.toNat = (b.ls.getD e.office.toNat default).2.length ∨ e.no.toNat < (b.ls.getD e.office.toNat default).2.length ∧ Op.bytesLess e.body ((b.ls.getD e.office.toNat default).2.getD e.no.toNat default).body = true) := by
        unfold chg; rw [hg]; exact ⟨fun x => x.2.2, fun x => ⟨h1, by omega, x⟩⟩
      obtain ⟨o, n, bo⟩ := e
      obtain ⟨a1, a2, a3, a4, a5⟩ := id h1
      simp only at a1 a2 a3 a4 a5 h2 hg hq hr hlg hb hc
      obtain ⟨o, rfl⟩ := nat_of a1
      obtain ⟨n, rfl⟩ := nat_of a3
      simp only [Int.toNat_natCast] at h2 hg hq hr hlg hc
      unfold bkV
      by_cases h3 : n = (b.ls.getD o default).2.length
      · rw [decide_eq_true (hc.2 (.inl h3))]
        refine GSpec.enter (fn := Try.f123) Try.func123 rfl (by kernel_rfl) ?_
        repeat' (conv => whnf
                 first
                 | ((with_reducible refine CallG.rd (f := 83) (X := .int .i64 0) ?_ ?_); (· exact e83 _ _))
                 | (((with_reducible apply LoadSt.ownd (g := slV)); (· (repeat (first | exact List.Mem.head _ | with_reducible apply List.mem_cons_of_mem))); (· (exact Nat.zero_add _)); (· (omega))))
                 | ((with_reducible refine DrawSt.walk [0, 1, 2, 3, 4, 5, 6, 7, 8, 9, 10, 11, 12] mixed ?_ ?_); · decide +kernel)
                 | ((with_reducible refine DrawSt.walk [0, 1, 2, 3, 4, 5, 6, 7, 8] mixed ?_ ?_); · decide +kernel)
                 | ((with_reducible refine DrawSt.walk [0, 1, 2, 3, 4, 5, 6, 7, 8, 9, 10, 11, 12, 13, 14, 15, 16, 17, 18, 19, 20, 21, 22, 23] mixed ?_ ?_); · decide +kernel)
                 | (with_reducible refine NextSt.mk ?_)
                 | (with_reducible refine OnBB.tt ?_)
                 | (with_reducible refine OnBB.ff ?_)
                 | ((with_reducible apply Cmp.no); · omega)
                 | ((with_reducible apply LoadSt.box); · (repeat (first | exact List.Mem.head _ | with_reducible apply List.mem_cons_of_mem)))
                 | ((with_reducible apply LoadSt.boxAgg); · (repeat (exact List.Mem.head _)))
                 | ((with_reducible refine AllocSt.mk ?_); intro _b _hb _hbO)
                 | ((with_reducible apply IdxSl.own1); (· rfl); (· with_reducible rfl); · (omega))
                 | ((with_reducible apply Cmp.yes); · (dsimp only; omega))
                 | ((with_reducible apply Cmp.no); · (dsimp only; omega)))
        conv => whnf
        refine FinSt.ret (by (try dsimp only); (try simp only [List.cons_append, List.nil_append]); (repeat (first | with_reducible exact List.Sublist.refl _ | with_reducible apply List.Sublist.cons))) ?_
        rfl
      · by_cases h4 : n < (b.ls.getD o default).2.length
        · cases h5 : Op.bytesLess bo ((b.ls.getD o default).2.getD n default).body
          · rw [decide_eq_false (fun x => by rcases hc.1 x with x | x; exact h3 x; rw [h5] at x; cases x.2)]
            have h6 : ¬ Op.bytesLess bo ((b.ls.getD o default).2.getD n default).body = true := by rw [h5]; simp
            refine GSpec.enter (fn := Try.f123) Try.func123 rfl (by kernel_rfl) ?_
            repeat' (conv => whnf
                     first
                     | ((with_reducible refine CallG.rd (f := 83) (X := .int .i64 0) ?_ ?_); (· exact e83 _ _))
                     | (((with_reducible apply LoadSt.ownd (g := slV)); (· (repeat (first | exact List.Mem.head _ | with_reducible apply List.mem_cons_of_mem))); (· (exact Nat.zero_add _)); (· (omega))))
                     | (((with_reducible apply LoadSt.rdf (g := enV) (s := 3)); (· (repeat (first | with_reducible assumption | with_reducible apply Rd.cons))); (· exact fun _ => rfl); (· (omega)); (· decide)))
                     | ((with_reducible refine DrawSt.walk [0, 1, 2, 3, 4, 5, 6, 7, 8, 9, 10, 11, 12] mixed ?_ ?_); · decide +kernel)
                     | ((with_reducible refine DrawSt.walk [0, 1, 2, 3, 4, 5, 6, 7, 8] mixed ?_ ?_); · decide +kernel)
                     | ((with_reducible refine DrawSt.walk [0, 1, 2, 3, 4, 5, 6, 7, 8, 9, 10, 11, 12, 13, 14, 15, 16, 17, 18, 19, 20, 21, 22, 23] mixed ?_ ?_); · decide +kernel)
                     | ((with_reducible apply IdxSl.bufm (s := 3)); (· with_reducible assumption); (· rfl); (· rfl); (· with_reducible rfl); · (omega))
                     | (with_reducible refine NextSt.mk ?_)
                     | (with_reducible refine OnBB.tt ?_)
                     | (with_reducible refine OnBB.ff ?_)
                     | ((with_reducible apply Cmp.no); · omega)
                     | ((with_reducible apply LoadSt.box); · (repeat (first | exact List.Mem.head _ | with_reducible apply List.mem_cons_of_mem)))
                     | ((with_reducible apply LoadSt.boxAgg); · (repeat (exact List.Mem.head _)))
                     | ((with_reducible refine AllocSt.mk ?_); intro _b _hb _hbO)
                     | ((with_reducible apply IdxSl.own1); (· rfl); (· with_reducible rfl); · (omega))
                     | ((with_reducible apply Cmp.yes); · (dsimp only; omega))
                     | ((with_reducible apply Cmp.no); · (dsimp only; omega)))
            conv => whnf
            refine FinSt.ret (by (try dsimp only); (try simp only [List.cons_append, List.nil_append]); (repeat (first | with_reducible exact List.Sublist.refl _ | with_reducible apply List.Sublist.cons))) ?_
            rfl
          · rw [decide_eq_true (hc.2 (.inr ⟨h4, h5⟩))]
            refine GSpec.enter (fn := Try.f123) Try.func123 rfl (by kernel_rfl) ?_
            repeat' (conv => whnf
                     first
                     | ((with_reducible refine CallG.rd (f := 83) (X := .int .i64 0) ?_ ?_); (· exact e83 _ _))
                     | (((with_reducible apply LoadSt.ownd (g := slV)); (· (repeat (first | exact List.Mem.head _ | with_reducible apply List.mem_cons_of_mem))); (· (exact Nat.zero_add _)); (· (omega))))
                     | (((with_reducible apply LoadSt.rdf (g := enV) (s := 3)); (· (repeat (first | with_reducible assumption | with_reducible apply Rd.cons))); (· exact fun _ => rfl); (· (omega)); (· decide)))
                     | ((with_reducible refine DrawSt.walk [0, 1, 2, 3, 4, 5, 6, 7, 8, 9, 10, 11, 12] mixed ?_ ?_); · decide +kernel)
                     | ((with_reducible refine DrawSt.walk [0, 1, 2, 3, 4, 5, 6, 7, 8] mixed ?_ ?_); · decide +kernel)
                     | ((with_reducible refine DrawSt.walk [0, 1, 2, 3, 4, 5, 6, 7, 8, 9, 10, 11, 12, 13, 14, 15, 16, 17, 18, 19, 20, 21, 22, 23] mixed ?_ ?_); · decide +kernel)
                     | ((with_reducible apply IdxSl.bufm (s := 3)); (· with_reducible assumption); (· rfl); (· rfl); (· with_reducible rfl); · (omega))
                     | (with_reducible refine NextSt.mk ?_)
                     | (with_reducible refine OnBB.tt ?_)
                     | (with_reducible refine OnBB.ff ?_)
                     | ((with_reducible apply Cmp.yes); · omega)
                     | ((with_reducible apply Cmp.no); · omega)
                     | ((with_reducible apply LoadSt.box); · (repeat (first | exact List.Mem.head _ | with_reducible apply List.mem_cons_of_mem)))
                     | ((with_reducible apply LoadSt.boxAgg); · (repeat (exact List.Mem.head _)))
                     | ((with_reducible refine AllocSt.mk ?_); intro _b _hb _hbO)
                     | ((with_reducible apply IdxSl.own1); (· rfl); (· with_reducible rfl); · (omega))
                     | ((with_reducible apply Cmp.yes); · (dsimp only; omega))
                     | ((with_reducible apply Cmp.no); · (dsimp only; omega)))
            conv => whnf
            refine FinSt.ret (by (try dsimp only); (try simp only [List.cons_append, List.nil_append]); (repeat (first | with_reducible exact List.Sublist.refl _ | with_reducible apply List.Sublist.cons))) ?_
            rfl
        · rw [decide_eq_false (fun x => by rcases hc.1 x with x | x; exact h3 x; exact h4 x.1)]
          refine GSpec.enter (fn := Try.f123) Try.func123 rfl (by kernel_rfl) ?_
          repeat' (conv => whnf
                   first
                   | ((with_reducible refine CallG.rd (f := 83) (X := .int .i64 0) ?_ ?_); (· exact e83 _ _))
                   | (((with_reducible apply LoadSt.ownd (g := slV)); (· (repeat (first | exact List.Mem.head _ | with_reducible apply List.mem_cons_of_mem))); (· (exact Nat.zero_add _)); (· (omega))))
                   | ((with_reducible refine DrawSt.walk [0, 1, 2, 3, 4, 5, 6, 7, 8, 9, 10, 11, 12] mixed ?_ ?_); · decide +kernel)
                   | ((with_reducible refine DrawSt.walk [0, 1, 2, 3, 4, 5, 6, 7, 8] mixed ?_ ?_); · decide +kernel)
                   | ((with_reducible refine DrawSt.walk [0, 1, 2, 3, 4, 5, 6, 7, 8, 9, 10, 11, 12, 13, 14, 15, 16, 17, 18, 19, 20, 21, 22, 23] mixed ?_ ?_); · decide +kernel)
                   | (with_reducible refine NextSt.mk ?_)
                   | (with_reducible refine OnBB.ff ?_)
                   | ((with_reducible apply Cmp.no); · omega)
                   | ((with_reducible apply LoadSt.box); · (repeat (first | exact List.Mem.head _ | with_reducible apply List.mem_cons_of_mem)))
                   | ((with_reducible apply LoadSt.boxAgg); · (repeat (exact List.Mem.head _)))
                   | ((with_reducible refine AllocSt.mk ?_); intro _b _hb _hbO)
                   | ((with_reducible apply IdxSl.own1); (· rfl); (· with_reducible rfl); · (omega))
                   | ((with_reducible apply Cmp.no); · (dsimp only; omega)))
          conv => whnf
          refine FinSt.ret (by (try dsimp only); (try simp only [List.cons_append, List.nil_append]); (repeat (first | with_reducible exact List.Sublist.refl _ | with_reducible apply List.Sublist.cons))) ?_
          rfl
    · rw [decide_eq_false (fun x : chg b.logs e => h2 (by have := x.2.1; omega))]
      have a1 := h1.1
      unfold bkV
      refine GSpec.enter (fn := Try.f123) Try.func123 rfl (by kernel_rfl) ?_
      repeat' (conv => whnf
               first
               | ((with_reducible refine CallG.rd (f := 83) (X := .int .i64 0) ?_ ?_); (· exact e83 _ _))
               | ((with_reducible refine DrawSt.walk [0, 1, 2, 3, 4, 5, 6, 7, 8, 9, 10, 11, 12] mixed ?_ ?_); · decide +kernel)
               | (with_reducible refine NextSt.mk ?_)
               | (with_reducible refine OnBB.tt ?_)
               | (with_reducible refine OnBB.ff ?_)
               | ((with_reducible apply Cmp.yes); · omega)
               | ((with_reducible apply Cmp.no); · omega)
               | ((with_reducible apply LoadSt.box); · (repeat (first | exact List.Mem.head _ | with_reducible apply List.mem_cons_of_mem)))
               | ((with_reducible apply LoadSt.boxAgg); · (repeat (exact List.Mem.head _)))
               | ((with_reducible refine AllocSt.mk ?_); intro _b _hb _hbO))
      conv => whnf
      refine FinSt.ret (by (try dsimp only); (try simp only [List.cons_append, List.nil_append]); (repeat (first | with_reducible exact List.Sublist.refl _ | with_reducible apply List.Sublist.cons))) ?_
      rfl
  · rw [decide_eq_false (fun x : chg b.logs e => h1 x.1)]
    have e83 := fun h O => f83 e hb h O
    rw [show chkE e = 92 from if_neg h1] at e83
    unfold bkV
    refine GSpec.enter (fn := Try.f123) Try.func123 rfl (by kernel_rfl) ?_
    repeat' (conv => whnf
             first
             | ((with_reducible refine CallG.rd (f := 83) (X := .int .i64 92) ?_ ?_); (· exact e83 _ _))
             | ((with_reducible refine DrawSt.walk [0, 1, 2, 3, 4, 5, 6, 7, 8, 9, 10, 11, 12] mixed ?_ ?_); · decide +kernel)
             | (with_reducible refine NextSt.mk ?_)
             | (with_reducible refine OnBB.tt ?_)
             | ((with_reducible apply Cmp.yes); · omega)
             | ((with_reducible apply LoadSt.boxAgg); · (repeat (exact List.Mem.head _)))
             | ((with_reducible refine AllocSt.mk ?_); intro _b _hb _hbO))
    conv => whnf
    refine FinSt.ret (by (try dsimp only); (try simp only [List.cons_append, List.nil_append]); (repeat (first | with_reducible exact List.Sublist.refl _ | with_reducible apply List.Sublist.cons))) ?_
    rfl
end Go.Proofs.Ytlbmlimaobkhpaa
/- The reference's books: a message changes them. -/
namespace Go.Proofs.Ytlbmlimaobkhpaa
open Go Go.Gv
set_option maxRecDepth 100000
set_option maxHeartbeats 4000000
set_option linter.unusedSimpArgs false
set_option linter.unusedVariables false
def ChE (b : Br) (q at_ falls : Nat) (e : En) (v : Value) (O' : Hp) : Prop :=
  ∃ b', b'.p = b.p ∧ b'.logs = chgd b.logs e ∧ lOk b'.ls ∧ O' = bke b'.p (bkV b') q at_ falls :: lgc b' :: lgHp b'.ls ∧ v = noV
theorem loc_nil {b : Nat} {O : Hp} : Gv.Loc ((b, Obj.cells ⟨[]⟩ 70 (0, 0)) :: O) ((Buf.of b 0).hp 70 (([] : List En).flatMap enV)) (fun H' => H' ++ O) := by rw [Buf.of_hp]; exact Gv.Loc.one
theorem swap_log {ls : List Lg} {o : Nat} {E : Buf} {l : List En} {h : View} {x y : Nat × Obj} {O : Hp} (ho : o < ls.length) (hs : (E.hp 70 (l.flatMap enV) ++ (x :: y :: lgHp ls)).Sublist O) : Wk h O h (x :: y :: lgHp (ls.set o (E, l))) := by
  have hloc := lgHp_loc ho
  have hset := lgHp_set2 ho E l
  have h1 : (E.hp 70 (l.flatMap enV) ++ (x :: y :: lgHp ls)).Perm (x :: y :: (E.hp 70 (l.flatMap enV) ++ lgHp ls)) := List.perm_append_comm.trans (by
    show (x :: y :: (lgHp ls ++ _)).Perm _
    exact (List.perm_append_comm.cons y).cons x)
  have h2 : (lgHp (ls.take o) ++ ([] ++ lgHp (ls.drop (o + 1)))).Sublist (lgHp ls) := by
    have := hloc.self
    rw [← this]
    exact (List.Sublist.refl _).append ((List.nil_sublist _).append (List.Sublist.refl _))
  have h3 := hloc.perm' (E.hp 70 (l.flatMap enV))
  simp only [hset] at h3
  exact (Wk.drop hs).trans ((Wk.perm h1).trans ((Wk.drop (((((List.Sublist.refl _).append h2).cons_cons y)).cons_cons x)).trans (Wk.perm ((h3.symm.cons y).cons x))))
theorem f124 (b : Br) (q at_ falls : Nat) (e : En) (hw : wfL b.logs) (hl : lOk b.ls) (hc : chg b.logs e) (h : View) :
    GSpec Try.prog 124 [pP b.p, .agg ⟨enV e⟩] h (bke b.p (bkV b) q at_ falls :: lgc b :: lgHp b.ls) (fun v _ O' => ChE b q at_ falls e v O') := by
  have hlen := logs_len b
  have hb8 := hw.len
  have h2 : e.office.toNat < b.ls.length := by have := hc.2.1; omega
  have hg := logs_get h2
  have hq := hl.get h2
  have hr := lgHp_rd hl h2 (w := h)
  have hlg := hw.log e.office.toNat (by omega)
  have hloc := lgHp_loc h2
  have hset := lgHp_set2 h2
  rw [hg] at hlg
  obtain ⟨h1, _, h3⟩ := hc
  rw [hg] at h3
  obtain ⟨o, n, bo⟩ := e
  obtain ⟨a1, a2, a3, a4, a5⟩ := id h1
  simp only at a1 a2 a3 a4 a5 h2 hg hq hr hlg h3 hloc hset
  obtain ⟨o, rfl⟩ := nat_of a1
  obtain ⟨n, rfl⟩ := nat_of a3
  simp only [Int.toNat_natCast] at h2 hg hq hr hlg h3 hloc hset
  unfold bkV
  have hlogs : ∀ B l', l' = put1 (b.ls.getD o default).2 ⟨o, n, bo⟩ → ({ b with ls := b.ls.set o (B, l') } : Br).logs = chgd b.logs ⟨o, n, bo⟩ := fun B l' e => by
    subst e
    show (b.ls.set o _).map Prod.snd = _
    rw [List.map_set]
    simp only [chgd, Int.toNat_natCast, hg]; rfl
  have hsl : ∀ q, (b.ls.map slV).set o (slV q) = (b.ls.set o q).map slV := fun q => by rw [List.map_set]
  by_cases h4 : n = (b.ls.getD o default).2.length
  · refine GSpec.enter (fn := Try.f124) Try.func124 rfl (by kernel_rfl) ?_
    repeat' (conv => whnf
             first
             | (((with_reducible refine DrawSt.walkF ([(_b, .cells ⟨[.int .i64 o, .int .i64 n, sV bo]⟩ 70 (0, 0)), bke b.p (.slice (some ⟨b.lp, 0, none⟩) b.ls.length b.ls.length) q at_ falls, (b.lp, .cells ⟨b.ls.map slV⟩ 63 (0, 0))]) [1,2,3,4,5,6,7,8,0,9,10] mixed ?_ ?_ ?_); (· decide +kernel); (· (try dsimp only); (try simp only [List.cons_append, List.nil_append]); (repeat (first | with_reducible exact List.nil_sublist _ | with_reducible apply List.Sublist.cons_cons | apply List.Sublist.cons_cons)))))
             | (((with_reducible apply LoadSt.ownd (g := slV)); (· (repeat (first | exact List.Mem.head _ | with_reducible apply List.mem_cons_of_mem))); (· (exact Nat.zero_add _)); (· (omega))); unfold slV)
             | ((with_reducible refine SubSt.mk ?_ ?_); · (repeat (first | (intro _y _hy; cases _hy; done) | refine List.forall_mem_cons.2 ⟨by (repeat (first | exact List.Mem.head _ | with_reducible apply List.mem_cons_of_mem)), ?_⟩)))
             | (with_reducible refine NextSt.mk ?_)
             | ((with_reducible apply LoadSt.box); · (repeat (first | exact List.Mem.head _ | with_reducible apply List.mem_cons_of_mem)))
             | ((with_reducible refine AllocSt.mk ?_); intro _b _hb _hbO)
             | ((with_reducible apply IdxSl.own1); (· rfl); (· with_reducible rfl); · (omega)))
    conv => whnf
    refine AppSt.rowm (b := Buf.of _b 0) (g := enV) (xs := []) (ys := (b.ls.getD o default).2) (s := 3) (z := .agg ⟨[.int .i64 0, .int .i64 0, .string ⟨⟨[]⟩⟩]⟩) loc_nil (Buf.of_ok rfl) (Rd.cons (Rd.cons (Rd.cons (Rd.cons hr)))) rfl (fun hx => Buf.none_len hq hx) (fun _ => rfl) (fun _ => rfl) rfl rfl rfl rfl (by show _ * 32 ≤ _; omega) (by omega) ?_
    intro D hD
    simp only [List.nil_append, Nat.zero_add] at hD ⊢
    repeat' (conv => whnf
             first
             | (((with_reducible apply AppSt.litm (g := enV) (x := ⟨o, n, bo⟩) (s := 3) (z := .agg ⟨[.int .i64 0, .int .i64 0, .string ⟨⟨[]⟩⟩]⟩)); (· (repeat (first | with_reducible exact Loc.hd | with_reducible apply Loc.tl))); (· exact hD); (· (repeat (exact List.Mem.head _))); (· rfl); (· rfl); (· rfl); (· rfl); (· rfl); (· rfl); (· rfl); (· (show _ * 32 ≤ _; omega)); (· omega); intro E hE))
             | (((with_reducible apply StoreSt.mapd (g := slV) (x := (E, (b.ls.getD o default).2 ++ [⟨o, n, bo⟩]))); (· (repeat (first | exact Upd.hd | apply Upd.tl | apply Upd.app))); (· ((simp only [Nat.zero_add, Nat.add_zero]; rfl))); (· simp only [slV, List.length_append, List.length_cons, List.length_nil]; rfl); (· rfl); (· (omega)); (· exact Or.inl (Nat.le_refl _))))
             | ((with_reducible refine DrawSt.walk [0, 1, 2, 3, 4, 5, 6, 7, 8] mixed ?_ ?_); · decide +kernel)
             | ((with_reducible refine SubSt.mk ?_ ?_); · (repeat (first | (intro _y _hy; cases _hy; done) | refine List.forall_mem_cons.2 ⟨by (repeat (first | exact List.Mem.head _ | with_reducible apply List.mem_append_right | with_reducible apply List.mem_cons_of_mem)), ?_⟩)))
             | (with_reducible refine NextSt.mk ?_)
             | (with_reducible refine OnBB.tt ?_)
             | ((with_reducible apply LoadSt.box); · (repeat (first | exact List.Mem.head _ | with_reducible apply List.mem_append_right | with_reducible apply List.mem_cons_of_mem)))
             | ((with_reducible apply LoadSt.boxAgg); · (repeat (first | exact List.Mem.head _ | with_reducible apply List.mem_append_right)))
             | ((with_reducible refine AllocSt.mk ?_); intro _b _hb _hbO)
             | ((with_reducible apply IdxSl.own1); (· rfl); (· with_reducible rfl); · (omega))
             | ((with_reducible apply Cmp.yes); · (dsimp only; omega)))
    refine .mk h _ (swap_log (x := bke b.p (.slice (some ⟨b.lp, 0, none⟩) b.ls.length b.ls.length) q at_ falls) (y := (b.lp, .cells ⟨(b.ls.set o (E, (b.ls.getD o default).2 ++ [⟨o, n, bo⟩])).map slV⟩ 63 (0, 0))) h2 (List.Sublist.cons _ ((List.Sublist.refl _).append (List.Sublist.cons _ (List.Sublist.refl _))))) ⟨{ b with ls := b.ls.set o (E, (b.ls.getD o default).2 ++ [⟨o, n, bo⟩]) }, rfl, hlogs _ _ ?_, ?_, ?_, rfl⟩
    · simp only [put1, Int.toNat_natCast, if_pos h4]
    · exact lOk.set hl (by simpa using hE)
    · simp only [bkV, List.length_set]
  · refine GSpec.enter (fn := Try.f124) Try.func124 rfl (by kernel_rfl) ?_
    repeat' (conv => whnf
             first
             | (((with_reducible refine DrawSt.walkF ([(_b, .cells ⟨[.int .i64 o, .int .i64 n, sV bo]⟩ 70 (0, 0)), bke b.p (.slice (some ⟨b.lp, 0, none⟩) b.ls.length b.ls.length) q at_ falls, (b.lp, .cells ⟨b.ls.map slV⟩ 63 (0, 0))]) [1,2,3,4,5,6,7,8,0,9,10] mixed ?_ ?_ ?_); (· decide +kernel); (· (try dsimp only); (try simp only [List.cons_append, List.nil_append]); (repeat (first | with_reducible exact List.nil_sublist _ | with_reducible apply List.Sublist.cons_cons | apply List.Sublist.cons_cons)))))
             | (((with_reducible apply LoadSt.ownd (g := slV)); (· (repeat (first | exact List.Mem.head _ | with_reducible apply List.mem_cons_of_mem))); (· (exact Nat.zero_add _)); (· (omega))); unfold slV)
             | ((with_reducible refine SubSt.mk ?_ ?_); · (repeat (first | (intro _y _hy; cases _hy; done) | refine List.forall_mem_cons.2 ⟨by (repeat (first | exact List.Mem.head _ | with_reducible apply List.mem_cons_of_mem)), ?_⟩)))
             | (with_reducible refine NextSt.mk ?_)
             | ((with_reducible apply LoadSt.box); · (repeat (first | exact List.Mem.head _ | with_reducible apply List.mem_cons_of_mem)))
             | ((with_reducible refine AllocSt.mk ?_); intro _b _hb _hbO)
             | ((with_reducible apply IdxSl.own1); (· rfl); (· with_reducible rfl); · (omega)))
    conv => whnf
    refine AppSt.rowm (b := Buf.of _b 0) (g := enV) (xs := []) (ys := (b.ls.getD o default).2) (s := 3) (z := .agg ⟨[.int .i64 0, .int .i64 0, .string ⟨⟨[]⟩⟩]⟩) loc_nil (Buf.of_ok rfl) (Rd.cons (Rd.cons (Rd.cons (Rd.cons hr)))) rfl (fun hx => Buf.none_len hq hx) (fun _ => rfl) (fun _ => rfl) rfl rfl rfl rfl (by show _ * 32 ≤ _; omega) (by omega) ?_
    intro D hD
    simp only [List.nil_append, Nat.zero_add] at hD ⊢
    repeat' (conv => whnf
             first
             | (((apply StoreSt.bufe (g := enV) (s := 3) (i := n) (x := ⟨o, n, bo⟩)); (· (repeat (with_reducible exact Loc.hd))); (· exact hD); (· exact fun _ => rfl); (· with_reducible rfl); (· rfl); (· (omega)); (· decide); (· rfl)))
             | (((with_reducible apply StoreSt.mapd (g := slV) (x := (D, (b.ls.getD o default).2.set n ⟨o, n, bo⟩))); (· (repeat (first | exact Upd.hd | apply Upd.tl | apply Upd.app))); (· ((simp only [Nat.zero_add, Nat.add_zero]; rfl))); (· simp only [slV, List.length_set]; rfl); (· rfl); (· (omega)); (· exact Or.inl (Nat.le_refl _))))
             | ((with_reducible refine DrawSt.walk [0, 1, 2, 3, 4, 5, 6, 7, 8] mixed ?_ ?_); · decide +kernel)
             | ((with_reducible apply IdxSl.bufm (s := 3)); (· with_reducible assumption); (· rfl); (· rfl); (· with_reducible rfl); · (omega))
             | ((with_reducible refine SubSt.mk ?_ ?_); · (repeat (first | (intro _y _hy; cases _hy; done) | refine List.forall_mem_cons.2 ⟨by (repeat (first | exact List.Mem.head _ | with_reducible apply List.mem_append_right | with_reducible apply List.mem_cons_of_mem)), ?_⟩)))
             | (with_reducible refine NextSt.mk ?_)
             | (with_reducible refine OnBB.ff ?_)
             | ((with_reducible apply LoadSt.box); · (repeat (first | exact List.Mem.head _ | with_reducible apply List.mem_append_right | with_reducible apply List.mem_cons_of_mem)))
             | ((with_reducible apply LoadSt.boxAgg); · (repeat (first | exact List.Mem.head _ | with_reducible apply List.mem_append_right)))
             | ((with_reducible apply IdxSl.own1); (· rfl); (· with_reducible rfl); · (omega))
             | ((with_reducible apply Cmp.no); · (dsimp only; omega)))
    refine .mk h _ (swap_log (x := bke b.p (.slice (some ⟨b.lp, 0, none⟩) b.ls.length b.ls.length) q at_ falls) (y := (b.lp, .cells ⟨(b.ls.set o (D, (b.ls.getD o default).2.set n ⟨o, n, bo⟩)).map slV⟩ 63 (0, 0))) h2 ((List.Sublist.refl _).append (List.Sublist.cons _ (List.Sublist.refl _)))) ⟨{ b with ls := b.ls.set o (D, (b.ls.getD o default).2.set n ⟨o, n, bo⟩) }, rfl, hlogs _ _ ?_, ?_, ?_, rfl⟩
    · simp only [put1, Int.toNat_natCast, if_neg h4]
    · refine lOk.set hl ?_
      have h6 : ∀ l : List En, (l.flatMap enV).length = l.length * 3 := fun l => flat_length (g := enV) (s := 3) (fun _ => rfl) l
      rw [List.length_set]
      exact Buf.ok_len hD (by rw [h6, h6, List.length_set])
    · simp only [bkV, List.length_set]
end Go.Proofs.Ytlbmlimaobkhpaa
/- The reference's books: a message is put. -/
namespace Go.Proofs.Ytlbmlimaobkhpaa
open Go Go.Gv
set_option maxRecDepth 100000
set_option maxHeartbeats 4000000
set_option linter.unusedSimpArgs false
set_option linter.unusedVariables false
def KeepEG (p : Nat) (L : Value) (r : Dr) (d : Dk) (at_ falls : Nat) (pay : Str) (G : Hp) (v : Value) (O' : Hp) : Prop :=
  ∃ r', r'.p = r.p ∧ dOk r' (ekV d falls at_ pay).1 ∧ O' = eHp r' (ekV d falls at_ pay).1 ++ (bke p L r.p (if (ekV d falls at_ pay).2 = 0 then at_ + secN pay.length else at_) falls :: G) ∧ v = .int .i64 (ekV d falls at_ pay).2
theorem f135g (p : Nat) (L : Value) (r : Dr) (d : Dk) (at_ falls B : Nat) (pay : Str) (G : Hp) (hp : pay.length < 1000000) (hat : at_ < 100000000) (hd : d.okB B) (hB : B + secN pay.length + 3 < 1000000000) (hk : dOk r d) (h : View) :
    GSpec Try.prog 135 [pP p, sV pay] h (eHp r d ++ (bke p L r.p at_ falls :: G)) (fun v _ O' => KeepEG p L r d at_ falls pay G v O') := by
  refine (GSpec.loc Loc.mid1 (f135 p L r d at_ falls B pay hp hat hd hB hk h)).mono ?_
  rintro v h' O' ⟨_, ⟨r', h1, h2, rfl, h4⟩, rfl⟩
  exact ⟨r', h1, h2, by simp, h4⟩
/-- A book and its disk. -/
abbrev eH (r : Dr) (d : Dk) (b : Br) (k : Bk) : Hp := eHp r d ++ (bke b.p (bkV b) r.p k.at_ k.falls :: lgc b :: lgHp b.ls)
/-- What a call leaves of a book and its disk. -/
def BE (r : Dr) (b : Br) (S : DB) (X : Value) (v : Value) (O' : Hp) : Prop := ∃ r' b', r'.p = r.p ∧ b'.p = b.p ∧ bOk r' S.1 b' S.2 ∧ O' = eH r' S.1 b' S.2 ∧ v = X
theorem f132 (r : Dr) (b : Br) (S : DB) (B : Nat) (e : En) (hS : okS B S) (hB : B + 20 < 1000000000) (hup : S.2.falls = S.1.falls ∧ S.1.off = false) (hk : bOk r S.1 b S.2) (hc : chg S.2.logs e) (h : View) :
    GSpec Try.prog 132 [pP b.p, .agg ⟨enV e⟩] h (eH r S.1 b S.2) (fun v _ O' => BE r b (putV S e).1 (.int .i64 (putV S e).2) v O') := by
  have hsec := secN_pay hc.1
  have hpl := payE_len e
  have hbl := hc.1.2.2.2.2
  have hsz := hS.d.size
  have hat := hS.at_
  have hlg := hk.logs
  have hcb : chg b.logs e := by rw [hlg]; exact hc
  have hwb : wfL b.logs := by rw [hlg]; exact hS.wf
  have hek : ekV S.1 S.2.falls S.2.at_ (payE e) = keepV S.1 S.2.at_ (payE e) := if_neg (fun hx => hx.elim (fun hx => hx hup.1) fun hx => by rw [hup.2] at hx; cases hx)
  have e135 := fun h => f135g b.p (bkV b) r S.1 S.2.at_ S.2.falls B (payE e) (lgc b :: lgHp b.ls) (by omega) (by omega) hS.d (by omega) hk.d h
  have hpe : payE e = [2, e.office.toNat, e.no.toNat].map UInt8.ofNat ++ e.body := rfl
  have e124 := fun (q a : Nat) h => f124 b q a S.2.falls e hwb hk.ls hcb h
  by_cases h0 : (keepV S.1 S.2.at_ (payE e)).2 = 0
  · have e1 : putV S e = (((keepV S.1 S.2.at_ (payE e)).1, ⟨chgd S.2.logs e, S.2.at_ + secN (payE e).length, S.2.falls⟩), 0) := if_pos h0
    obtain ⟨eo, en, eb⟩ := e
    obtain ⟨a1, a2, a3, a4, a5⟩ := hc.1
    simp only at a1 a2 a3 a4 a5
    obtain ⟨eo, rfl⟩ := nat_of a1
    obtain ⟨en, rfl⟩ := nat_of a3
    refine GSpec.enter (fn := Try.f132) Try.func132 rfl (by kernel_rfl) ?_
    repeat' (conv => whnf
             first
             | ((refine ToStr.bytes (l := [2, eo, en]) (Rd.own0 (List.Mem.head _)) ?_ rfl ?_); (· intro x hx; simp only [List.mem_cons, List.not_mem_nil, or_false] at hx; omega))
             | (with_reducible refine NextSt.mk ?_)
             | ((with_reducible apply NW.u8N); (· with_reducible rfl); (· omega))
             | ((with_reducible apply LoadSt.box); · (repeat (first | exact List.Mem.head _ | with_reducible apply List.mem_cons_of_mem)))
             | ((with_reducible refine AllocSt.mk ?_); intro _b _hb _hbO)
             | ((with_reducible apply StrAdd.mk); · ((simp only [List.length_map, List.length_append, List.length_cons, List.length_nil, List.length_take, List.length_drop, List.length_replicate, List.length_set] at *; omega))))
    conv => whnf
    with_reducible apply CallSt.loc (f := 135) (H := eHp r S.1 ++ (bke b.p (bkV b) r.p S.2.at_ S.2.falls :: lgc b :: lgHp b.ls)) (R := KeepEG b.p (bkV b) r S.1 S.2.at_ S.2.falls (payE ⟨eo, en, eb⟩) (lgc b :: lgHp b.ls))
    · (repeat (first | with_reducible exact Loc.last | with_reducible apply Loc.tl))
    · exact e135 _
    rintro _ _ ⟨r', hr1, hr2, rfl, rfl⟩
    rw [hek] at hr2 ⊢
    rw [if_pos h0, h0]
    repeat' (conv => whnf
             first
             | (with_reducible refine NextSt.mk ?_)
             | (with_reducible refine OnBB.tt ?_)
             | ((with_reducible apply Cmp.yes); · omega)
             | ((with_reducible apply LoadSt.boxAgg); · (repeat (first | exact List.Mem.head _ | with_reducible apply List.mem_cons_of_mem))))
    conv => whnf
    with_reducible apply CallSt.loc (f := 124) (H := bke b.p (bkV b) r.p (S.2.at_ + secN (payE ⟨eo, en, eb⟩).length) S.2.falls :: lgc b :: lgHp b.ls) (R := ChE b r.p (S.2.at_ + secN (payE ⟨eo, en, eb⟩).length) S.2.falls ⟨eo, en, eb⟩)
    · (repeat (first | with_reducible exact Loc.last | with_reducible apply Loc.tl | with_reducible apply Loc.skip))
    · exact e124 _ _ _
    rintro _ _ ⟨b', hb1, hb2, hb3, rfl, rfl⟩
    repeat' (conv => whnf
             first
             | (with_reducible refine NextSt.mk ?_))
    rw [e1]
    refine FinSt.own (R := BE r b _ (.int .i64 0)) (O1 := eHp r' (keepV S.1 S.2.at_ (payE ⟨eo, en, eb⟩)).1 ++ (bke b'.p (bkV b') r.p (S.2.at_ + secN (payE ⟨eo, en, eb⟩).length) S.2.falls :: lgc b' :: lgHp b'.ls)) (List.Sublist.cons _ (List.Sublist.cons _ (List.Sublist.refl _))) ?_
    exact ⟨r', b', hr1, hb1, ⟨hr2, by rw [hb2, hlg], hb3⟩, by rw [← hr1], rfl⟩
  · have e1 : putV S e = (((keepV S.1 S.2.at_ (payE e)).1, S.2), (keepV S.1 S.2.at_ (payE e)).2) := if_neg h0
    obtain ⟨eo, en, eb⟩ := e
    obtain ⟨a1, a2, a3, a4, a5⟩ := hc.1
    simp only at a1 a2 a3 a4 a5
    obtain ⟨eo, rfl⟩ := nat_of a1
    obtain ⟨en, rfl⟩ := nat_of a3
    refine GSpec.enter (fn := Try.f132) Try.func132 rfl (by kernel_rfl) ?_
    repeat' (conv => whnf
             first
             | ((refine ToStr.bytes (l := [2, eo, en]) (Rd.own0 (List.Mem.head _)) ?_ rfl ?_); (· intro x hx; simp only [List.mem_cons, List.not_mem_nil, or_false] at hx; omega))
             | (with_reducible refine NextSt.mk ?_)
             | ((with_reducible apply NW.u8N); (· with_reducible rfl); (· omega))
             | ((with_reducible apply LoadSt.box); · (repeat (first | exact List.Mem.head _ | with_reducible apply List.mem_cons_of_mem)))
             | ((with_reducible refine AllocSt.mk ?_); intro _b _hb _hbO)
             | ((with_reducible apply StrAdd.mk); · ((simp only [List.length_map, List.length_append, List.length_cons, List.length_nil, List.length_take, List.length_drop, List.length_replicate, List.length_set] at *; omega))))
    conv => whnf
    with_reducible apply CallSt.loc (f := 135) (H := eHp r S.1 ++ (bke b.p (bkV b) r.p S.2.at_ S.2.falls :: lgc b :: lgHp b.ls)) (R := KeepEG b.p (bkV b) r S.1 S.2.at_ S.2.falls (payE ⟨eo, en, eb⟩) (lgc b :: lgHp b.ls))
    · (repeat (first | with_reducible exact Loc.last | with_reducible apply Loc.tl))
    · exact e135 _
    rintro _ _ ⟨r', hr1, hr2, rfl, rfl⟩
    rw [hek] at hr2 ⊢
    rw [if_neg h0]
    repeat' (conv => whnf
             first
             | (with_reducible refine NextSt.mk ?_)
             | (with_reducible refine OnBB.ff ?_)
             | ((with_reducible apply Cmp.no); · omega))
    rw [e1]
    refine FinSt.own (R := BE r b _ (.int .i64 (keepV S.1 S.2.at_ (payE ⟨eo, en, eb⟩)).2)) (O1 := eHp r' (keepV S.1 S.2.at_ (payE ⟨eo, en, eb⟩)).1 ++ (bke b.p (bkV b) r.p S.2.at_ S.2.falls :: lgc b :: lgHp b.ls)) (List.Sublist.cons _ (List.Sublist.cons _ (List.Sublist.refl _))) ?_
    exact ⟨r', b, hr1, rfl, ⟨hr2, hk.logs, hk.ls⟩, by rw [← hr1], rfl⟩
end Go.Proofs.Ytlbmlimaobkhpaa
/- The reference's books: making. -/
namespace Go.Proofs.Ytlbmlimaobkhpaa
open Go Go.Gv
set_option maxRecDepth 100000
set_option maxHeartbeats 4000000
set_option linter.unusedSimpArgs false
set_option linter.unusedVariables false
def GotE (r : Dr) (x : Dk × Option Bk × Int) (v : Value) (O' : Hp) : Prop :=
  match x.2.1 with
  | some k => ∃ r' b, r'.p = r.p ∧ bOk r' x.1 b k ∧ O' = eH r' x.1 b k ∧ v = .tuple ⟨[pP b.p, .int .i64 x.2.2]⟩
  | none => ∃ r', r'.p = r.p ∧ dOk r' x.1 ∧ O' = eHp r' x.1 ∧ v = .tuple ⟨[.pointer none, .int .i64 x.2.2]⟩
theorem GotE.no {r : Dr} {d : Dk} {e : Int} {sb wb : Buf} (hk : dOk ⟨r.p, sb, wb⟩ d) : GotE r (d, none, e) (.tuple ⟨[.pointer none, .int .i64 e]⟩) (eHp ⟨r.p, sb, wb⟩ d) := ⟨⟨r.p, sb, wb⟩, rfl, hk, rfl, rfl⟩
theorem eHp_hd (r : Dr) (d : Dk) : (r.p, Obj.cells ⟨[.slice r.sb.a d.safe.length r.sb.cap, .slice r.wb.a d.waits.length r.wb.cap, .bool !d.off, iN d.armed, iN d.falls]⟩ 145 (0, 0)) ∈ eHp r d := List.Mem.head _
theorem ekV_make {d : Dk} {p : Str} : ekV d d.falls 0 p = if d.off then (d, 93) else keepV d 0 p := by
  unfold ekV
  cases d.off <;> simp
theorem f70 (r : Dr) (d : Dk) (B : Nat) (n : Int) (hd : d.okB B) (hB : B + 20 < 1000000000) (hk : dOk r d) (h : View) :
    GSpec Try.prog 70 [dP r, .int .i64 n] h (eHp r d) (fun v _ O' => GotE r (makeV d n) v O') := by
  have hsz := hd.size
  have hpl := payB_len n.toNat
  by_cases hn : n < 1 ∨ 8 < n
  · rw [show makeV d n = (d, none, 1) from if_pos hn]
    have e94 := f94 n 1 8
    rw [decide_eq_false (show ¬ (1 ≤ n ∧ n ≤ 8) by omega)] at e94
    refine GSpec.enter (fn := Try.f70) Try.func70 rfl (by kernel_rfl) ?_
    repeat' (conv => whnf
             first
             | ((with_reducible refine CallSt.rd (f := 94) (X := .bool false) ?_ ?_); (· exact e94 _ _))
             | (with_reducible refine NextSt.mk ?_)
             | (with_reducible refine OnBB.tt ?_)
             | (with_reducible refine OnBB.ff ?_))
    exact FinSt.own (R := GotE r (d, none, 1)) (O1 := eHp r d) (List.Sublist.refl _) (GotE.no (sb := r.sb) (wb := r.wb) hk)
  · have e94 := f94 n 1 8
    rw [decide_eq_true (show 1 ≤ n ∧ n ≤ 8 by omega)] at e94
    obtain ⟨n, rfl⟩ := nat_of (show 0 ≤ n by omega)
    rw [Int.toNat_natCast] at hpl
    have hek := ekV_make (d := d) (p := payB n)
    have hmk : makeV d n = if (ekV d d.falls 0 (payB n)).2 = 0 then ((ekV d d.falls 0 (payB n)).1, some ⟨List.replicate n [], 1, d.falls⟩, 0) else ((ekV d d.falls 0 (payB n)).1, none, (ekV d d.falls 0 (payB n)).2) := by
      rw [hek]
      unfold makeV
      rw [if_neg hn, Int.toNat_natCast]
      cases d.off
      · rfl
      · rfl
    have hb2 : B + secN (payB n).length + 3 < 1000000000 := by rw [show secN (payB n).length = 1 from by rw [payB_len]; rfl]; omega
    have e135 := fun (p : Nat) (L : Value) h => f135 p L r d 0 d.falls B (payB n) (by rw [payB_len]; decide) (by decide) hd hb2 hk h
    rw [hmk]
    generalize ekV d d.falls 0 (payB n) = X at *
    refine GSpec.enter (fn := Try.f70) Try.func70 rfl (by kernel_rfl) ?_
    repeat' (conv => whnf
             first
             | ((with_reducible refine CallSt.rd (f := 94) (X := .bool true) ?_ ?_); (· exact e94 _ _))
             | (((apply MakeSt.n (n := n) (z := [.slice none 0 0])); (· rfl); (· rfl); (· (show 24 * _ ≤ _; omega)); (· omega); (· rfl); (· rfl)); intro lb _hlb _hlbO; rw [show rows n [Value.slice none 0 0] = (List.replicate n (default : Lg)).map slV from rows_map (g := slV) (d := default) n])
             | (((with_reducible apply LoadSt.box); (· repeat (exact eHp_hd _ _))))
             | ((refine ToStr.bytes (l := [1, n]) (Rd.own0 (List.Mem.head _)) ?_ rfl ?_); (· intro x hx; simp only [List.mem_cons, List.not_mem_nil, or_false] at hx; omega))
             | ((with_reducible refine DrawSt.walk [0, 2, 3, 4, 5, 6, 1, 7, 8, 9] mixed ?_ ?_); · decide +kernel)
             | (with_reducible refine NextSt.mk ?_)
             | (with_reducible refine OnBB.tt ?_)
             | (with_reducible refine OnBB.ff ?_)
             | ((with_reducible apply NW.u8N); (· with_reducible rfl); (· omega))
             | ((with_reducible refine AllocSt.mk ?_); intro _b _hb _hbO))
    conv => whnf
    rename_i bp hbp hbpO
    with_reducible apply CallSt.frame (f := 135) (H := eHp r d ++ [bke bp (.slice (some ⟨lb, 0, none⟩) n n) r.p 0 d.falls]) (G := [(lb, .cells ⟨(List.replicate n (default : Lg)).map slV⟩ 63 (0, 0)), (_b, .cells ⟨[bN 1, bN n]⟩ 5 (0, 0))]) (R := KeepE bp (.slice (some ⟨lb, 0, none⟩) n n) r X 0 d.falls (secN (payB n).length))
    · refine (List.perm_append_comm (l₁ := [_, _, _]) (l₂ := eHp r d)).trans ?_
      rw [List.append_assoc]
      exact List.Perm.append_left _ ((List.Perm.swap _ _ _).trans (List.Perm.cons _ (List.Perm.swap _ _ _)))
    · exact e135 _ _ _
    rintro _ _ ⟨r', hr1, hr2, rfl, rfl⟩
    by_cases h0 : X.2 = 0
    · rw [if_pos h0, if_pos h0, h0]
      repeat' (conv => whnf
               first
               | (with_reducible refine NextSt.mk ?_)
               | (with_reducible refine OnBB.ff ?_)
               | ((with_reducible apply Cmp.no); · omega))
      refine FinSt.own (R := GotE r _) (O1 := (eHp r' X.1 ++ [bke bp (.slice (some ⟨lb, 0, none⟩) n n) r.p (0 + secN (payB n).length) d.falls]) ++ [(lb, .cells ⟨(List.replicate n (default : Lg)).map slV⟩ 63 (0, 0))]) ((List.Sublist.refl _).append (List.Sublist.cons_cons _ (List.nil_sublist _))) ⟨r', ⟨bp, lb, List.replicate n default⟩, hr1, ⟨hr2, logs_nil _ _ _, lOk.nil n⟩, ?_, rfl⟩
      rw [← hr1]
      simp only [eH, bkV, List.length_replicate, lgHp_nil, List.append_assoc]
      rw [show secN (payB n).length = 1 from by rw [payB_len]; rfl]
      rfl
    · rw [if_neg h0, if_neg h0]
      repeat' (conv => whnf
               first
               | (with_reducible refine NextSt.mk ?_)
               | (with_reducible refine OnBB.tt ?_)
               | ((with_reducible apply Cmp.yes); · omega))
      refine FinSt.own (R := GotE r _) (O1 := eHp r' X.1) (by rw [List.append_assoc]; exact List.sublist_append_left _ _) ?_
      exact ⟨r', hr1, hr2, rfl, rfl⟩
end Go.Proofs.Ytlbmlimaobkhpaa
