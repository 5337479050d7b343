/- Books: what their own blocks tell; entries, sums. -/
import Derived.Test.YtlbmlimaobkhpaaOa
import Derived.Test.YtlbmlimaobkhpaaGd
import Derived.Test.YtlbmlimaobkhpaaKa
set_option linter.unusedVariables false
set_option linter.unusedSimpArgs false
set_option linter.unusedSectionVars false
/- Books: what only their own blocks tell, whoever has their disk. -/
namespace Go.Proofs.Ytlbmlimaobkhpaa
open Go Go.Gv
set_option maxRecDepth 100000
set_option maxHeartbeats 4000000
set_option linter.unusedSimpArgs false
set_option linter.unusedVariables false
/-- A book's own blocks. -/
abbrev kH (q : Nat) (b : Br) (k : Bk) : Hp := bkc b.p (bkV b) q k.at_ k.falls :: lgc b :: lgHp b.ls
structure kOk (b : Br) (k : Bk) : Prop where
  logs : b.logs = k.logs
  ls : lOk b.ls
theorem bOk.k {r : Dr} {d : Dk} {b : Br} {k : Bk} (h : bOk r d b k) : kOk b k := ⟨h.logs, h.ls⟩
theorem f57k (w : Nat) (b : Br) (k : Bk) (hw : wfL k.logs) (hk : kOk b k) (h : View) : GSpec Try.prog 57 [pP b.p] h (kH w b k) (New (kH w b k) (RowR k.logs.flatten)) := by
  have hlg := hk.logs
  have hlen := logs_len b
  have hwb : wfL b.logs := by rw [hlg]; exact hw
  have hb8 := hwb.len
  have hflat : catL b.ls = k.logs.flatten := by rw [← hlg]; simp [catL, Br.logs, List.flatMap]
  have hmem : ∀ q ∈ b.ls, ∃ i < b.ls.length, b.ls.getD i default = q := fun q hq => by
    obtain ⟨i, hi, e⟩ := List.getElem_of_mem hq
    exact ⟨i, hi, by rw [List.getD_eq_getElem?_getD, List.getElem?_eq_getElem hi]; exact e⟩
  have e114 := fun h O hr hqr => f114 b.ls (some ⟨b.lp, 0, none⟩) b.ls.length (by omega) (fun q hq => by
    obtain ⟨i, hi, rfl⟩ := hmem q hq
    have := hwb.log i (by omega)
    rwa [logs_get hi] at this) (fun q hq ha => Buf.none_len (hk.ls q hq) ha) h O hr hqr
  rw [hflat] at e114
  refine GSpec.enter (fn := Try.f57) Try.func57 rfl (by kernel_rfl) ?_
  repeat' (conv => whnf
           first
           | (((apply CallSt.new (f := 114)); (· exact e114 _ _ (Rd.cons (Rd.own0 (List.Mem.head _))) (fun q hq => by obtain ⟨i, hi, rfl⟩ := hmem q hq; exact Rd.cons (Rd.cons (lgHp_rd hk.ls hi)))); rintro _ _ ⟨A, rfl, rfl, hA⟩))
           | (with_reducible refine NextSt.mk ?_)
           | ((with_reducible apply LoadSt.box); · (repeat (first | exact List.Mem.head _ | with_reducible apply List.mem_append_right | with_reducible apply List.mem_cons_of_mem))))
  refine FinSt.new (H := A.hp 70 (k.logs.flatten.flatMap enV)) (R := RowR k.logs.flatten) (List.Sublist.refl _) ⟨A, rfl, rfl, hA⟩
theorem f59k (w : Nat) (b : Br) (K : Bk) (hw : wfL K.logs) (hk : kOk b K) (h : View) : GSpec Try.prog 59 [pP b.p] h (kH w b K) (New (kH w b K) (TyR K.logs)) := by
  have hlg := hk.logs
  have hlen := logs_len b
  have hwb : wfL b.logs := by rw [hlg]; exact hw
  have hb8 := hwb.len
  refine GSpec.enter (fn := Try.f59) Try.func59 rfl (by kernel_rfl) ?_
  repeat' (conv => whnf
           first
           | (with_reducible refine NextSt.mk ?_)
           | ((with_reducible apply LoadSt.box); · (repeat (first | exact List.Mem.head _ | with_reducible apply List.mem_append_right | with_reducible apply List.mem_cons_of_mem)))
           | ((with_reducible refine AllocSt.mk ?_); intro _b _hb _hbO))
  refine LoopSt.fix [4, 10, 11, 12, 13, 14, 15, 16, 17, 18, 19, 20, 21, 22, 23, 24, 25, 26, 27, 28] (fun ((k, A, B) : Nat × Buf × Buf) => [(10, iN k)]) (fun (k, A, B) => (_b, .cells ⟨[.slice A.a k A.cap, .slice B.a k B.cap]⟩ 81 (0, 0)) :: (A.hp 3 (((b.logs.take k).map fun q => (q.length : Int)).map zV) ++ (B.hp 108 (((b.logs.take k).map sumL).map uN) ++ kH w b K))) (fun (k, A, B) => k ≤ b.ls.length ∧ A.ok 1 (((b.logs.take k).map fun q => (q.length : Int)).map zV) k ∧ B.ok 1 (((b.logs.take k).map sumL).map uN) k) (fun (k, A, B) => b.ls.length - k) ((0, Buf.nil, Buf.nil)) _ (Wk.refl _ _) (rfl) ?_ ?_ ?_
  · repeat' (first | exact True.intro | refine And.intro ?_ ?_ | rfl | exact congrArg (Value.int _) (by omega) | exact congrArg (fun n => Value.slice _ n _) (by (try dsimp only); omega))
  · exact ⟨Nat.zero_le _, Buf.nil_ok 1, Buf.nil_ok 1⟩
  · rintro ⟨k, A, B⟩ d2 ⟨hk2, hA, hB⟩
    dsimp only at hk2 hA hB ⊢
    by_cases hkl : k < b.ls.length
    · have hlk := logs_get hkl
      have hkl2 : k < b.logs.length := by omega
      have hl64 := hwb.log k hkl2
      have henk := hwb.en k hkl2
      rw [hlk] at hl64 henk
      have hen : ∀ e ∈ (b.ls.getD k default).2, enOk e := fun e he => by
        obtain ⟨i, hi, rfl⟩ := List.getElem_of_mem he
        have := (henk i hi).1
        rwa [List.getD_eq_getElem?_getD, List.getElem?_eq_getElem hi] at this
      have hrd := lgHp_rd (w := h) hk.ls hkl
      repeat' (conv => whnf
               first
               | (((with_reducible apply LoadSt.ownd (g := slV)); (· (repeat (first | exact List.Mem.head _ | with_reducible apply List.mem_append_right | with_reducible apply List.mem_cons_of_mem))); (· (first | exact Nat.zero_add _ | with_reducible rfl | omega | (show _ + _ * 1 = _; omega))); (· (first | omega | (simp only [List.length_map, List.length_append, List.length_cons, List.length_nil, List.length_take, List.length_drop, List.length_replicate, List.length_set] at *; omega)))); unfold slV)
               | (((with_reducible apply AppSt.lit1 (g := zV) (x := ((b.ls.getD k default).2.length : Int)) (z := .int .i64 0)); (· (repeat (first | with_reducible exact Loc.hd | with_reducible exact Loc.last | with_reducible exact Loc.one | with_reducible apply Loc.tl | with_reducible apply Loc.skip))); (· exact hA); (· (repeat (first | exact List.Mem.head _ | with_reducible apply List.mem_append_right | with_reducible apply List.mem_cons_of_mem))); (· rfl); (· rfl); (· rfl); (· rfl); (· rfl); (· rfl); (· (show _ * 8 ≤ _; omega)); (· omega); intro A' hA'))
               | (((with_reducible refine CallG.rd (f := 117) (X := uN (sumL (b.ls.getD k default).2)) ?_ ?_); (· exact f117 (b.ls.getD k default).2 _ _ (by omega) hen _ _ (by (repeat (first | with_reducible assumption | (with_reducible apply Buf.rd; with_reducible assumption) | (with_reducible apply Rd.appL; with_reducible assumption) | (with_reducible apply Rd.appL; with_reducible apply Buf.rd; with_reducible assumption) | with_reducible apply Rd.cons | with_reducible apply Rd.appR))))))
               | (((with_reducible apply AppSt.lit1 (g := uN) (x := sumL (b.ls.getD k default).2) (z := .int .u64 0)); (· (repeat (first | with_reducible exact Loc.hd | with_reducible exact Loc.last | with_reducible exact Loc.one | with_reducible apply Loc.tl | with_reducible apply Loc.skip))); (· exact hB); (· (repeat (first | exact List.Mem.head _ | with_reducible apply List.mem_append_right | with_reducible apply List.mem_cons_of_mem))); (· rfl); (· rfl); (· rfl); (· rfl); (· rfl); (· rfl); (· (show _ * 8 ≤ _; omega)); (· omega); intro B' hB'))
               | ((with_reducible refine DrawSt.walk [0, 1, 2, 3, 4, 5, 6, 7] mixed ?_ ?_); · decide +kernel)
               | (with_reducible refine NextSt.mk ?_)
               | (with_reducible refine OnBB.tt ?_)
               | ((with_reducible apply NW.addN); (· first | with_reducible rfl | exact natL _); (· first | with_reducible rfl | exact natL _); (· omega))
               | ((with_reducible apply Cmp.yes); · first | omega | (with_reducible assumption) | (with_reducible rfl))
               | ((with_reducible apply LoadSt.box); · (repeat (first | exact List.Mem.head _ | with_reducible apply List.mem_append_right | with_reducible apply List.mem_cons_of_mem)))
               | ((with_reducible refine AllocSt.mk ?_); intro _b _hb _hbO)
               | ((with_reducible apply StoreSt.box); (· (repeat (first | exact Upd.hd | apply Upd.tl | apply Upd.app))); (· rfl); (· rfl); (· rfl))
               | ((with_reducible apply IdxSl.own1); (· rfl); (· first | with_reducible rfl | exact natL _); · (first | omega | (simp only [List.length_map, List.length_append, List.length_cons, List.length_nil, List.length_take, List.length_drop, List.length_replicate, List.length_set] at *; omega))))
      have e1 : (b.logs.take k).map (fun q => (q.length : Int)) ++ [((b.ls.getD k default).2.length : Int)] = (b.logs.take (k + 1)).map (fun q => (q.length : Int)) := by rw [take_succ (d := []) hkl2, List.map_append, hlk]; rfl
      have e2 : (b.logs.take k).map sumL ++ [sumL (b.ls.getD k default).2] = (b.logs.take (k + 1)).map sumL := by rw [take_succ (d := []) hkl2, List.map_append, hlk]; rfl
      rw [e1] at hA' ⊢
      rw [e2] at hB' ⊢
      refine RoundFix.mk ((k + 1, A', B')) ?_ ?_ _ rfl (Wk.drop (by (try dsimp only); (try simp only [List.cons_append, List.nil_append]); (repeat (first | with_reducible exact List.Sublist.refl _ | with_reducible exact List.nil_sublist _ | with_reducible apply List.Sublist.cons_cons | with_reducible apply sub_app | apply List.Sublist.cons_cons | apply sub_app | with_reducible apply List.Sublist.cons | with_reducible apply sub_skip)))) ?_
      · dsimp only; omega
      · repeat' (first | exact True.intro | refine And.intro ?_ ?_ | rfl | exact congrArg (Value.int _) (by omega) | exact congrArg (fun n => Value.slice _ n _) (by (try dsimp only); omega))
      · exact ⟨by omega, hA', hB'⟩
    · have : k = b.ls.length := by omega
      subst this
      rw [List.take_of_length_le (by omega)] at hA hB ⊢
      rw [← hlen, hlg] at hA hB ⊢
      repeat' (conv => whnf
               first
               | (with_reducible refine NextSt.mk ?_)
               | (with_reducible refine OnBB.ff ?_)
               | ((with_reducible apply Cmp.no); · first | omega | (with_reducible assumption))
               | ((with_reducible apply LoadSt.boxAgg); · (repeat (first | exact List.Mem.head _ | with_reducible apply List.mem_append_right | with_reducible apply List.mem_cons_of_mem)))
               | ((with_reducible apply StoreSt.box); (· (repeat (first | exact Upd.hd | apply Upd.tl | apply Upd.app))); (· rfl); (· rfl); (· rfl)))
      exact FinSt.new (H := A.hp 3 ((K.logs.map fun q => (q.length : Int)).map zV) ++ B.hp 108 ((K.logs.map sumL).map uN)) (R := TyR K.logs) (List.Sublist.cons _ (by rw [List.append_assoc]; exact List.Sublist.refl _)) ⟨A, B, rfl, rfl, hA, hB⟩
theorem f113k (w : Nat) (b : Br) (k : Bk) (hk : kOk b k) (h : View) : GSpec Try.prog 113 [pP b.p] h (kH w b k) (Ret (kH w b k) (iN k.logs.length)) := by
  have hl : k.logs.length = b.ls.length := by rw [← hk.logs, logs_len]
  rw [hl]
  refine GSpec.enter (fn := Try.f113) Try.func113 rfl (by kernel_rfl) ?_
  repeat' (conv => whnf
           first
           | (with_reducible refine NextSt.mk ?_)
           | ((with_reducible apply LoadSt.box); · (repeat (first | exact List.Mem.head _ | with_reducible apply List.mem_append_right | with_reducible apply List.mem_cons_of_mem))))
  conv => whnf
  refine FinSt.ret (by (try dsimp only); (try simp only [List.cons_append, List.nil_append]); (repeat (first | with_reducible exact List.Sublist.refl _ | with_reducible exact List.nil_sublist _ | with_reducible apply List.Sublist.cons_cons | with_reducible apply sub_app | apply List.Sublist.cons_cons | apply sub_app | with_reducible apply List.Sublist.cons | with_reducible apply sub_skip))) ?_
  rfl
theorem flat_inj : ∀ {L M : List (List En)}, L.flatten = M.flatten → L.map (fun q => (q.length : Int)) = M.map (fun q => (q.length : Int)) → L = M
  | [], [], _, _ => rfl
  | [], _ :: _, _, h => by cases h
  | _ :: _, [], _, h => by cases h
  | q :: L, p :: M, h, h2 => by
    rw [List.map_cons, List.map_cons] at h2
    injection h2 with h3 h4
    rw [List.flatten_cons, List.flatten_cons] at h
    obtain ⟨h5, h6⟩ := List.append_inj h (by omega)
    rw [h5, flat_inj h6 h4]
theorem f56k (q1 q2 : Nat) (b1 b2 : Br) (k1 k2 : Bk) (O : Hp) {φ ψ : Hp → Hp} (l1 : Gv.Loc O (kH q1 b1 k1) φ) (l2 : Gv.Loc O (kH q2 b2 k2) ψ) (hw1 : wfL k1.logs) (hw2 : wfL k2.logs) (hk1 : kOk b1 k1) (hk2 : kOk b2 k2)
    (h : View) : GSpec Try.prog 56 [pP b1.p, pP b2.p] h O (Ret O (.bool (decide (k1.logs = k2.logs)))) := by
  have w1 := hw1.flat
  have w2 := hw2.flat
  have m1 := hw1.len
  have m2 := hw2.len
  have e112 := fun (A3 B3 A4 B4 : Buf) O hs ht => f112 ⟨A3.a, A3.cap, k1.logs.map fun q => (q.length : Int), B3.a, B3.cap, k1.logs.map sumL⟩ ⟨A4.a, A4.cap, k2.logs.map fun q => (q.length : Int), B4.a, B4.cap, k2.logs.map sumL⟩ h O hs ht
  by_cases hL : k1.logs = k2.logs
  · have m3 : k1.logs.length = k2.logs.length := by rw [hL]
    have edt : decide (k1.logs.map (fun q => (q.length : Int)) = k2.logs.map (fun q => (q.length : Int)) ∧ k1.logs.map sumL = k2.logs.map sumL) = true := decide_eq_true (by rw [hL]; exact ⟨rfl, rfl⟩)
    simp only [edt] at e112
    simp only [tyV, List.length_map] at e112
    rw [decide_eq_true hL]
    refine GSpec.enter (fn := Try.f56) Try.func56 rfl (by kernel_rfl) ?_
    repeat' (conv => whnf
             first
             | ((apply CallSt.new (GSpec.locNew (H := kH q1 b1 k1) (by repeat (first | exact l1 | with_reducible apply Loc.skip)) (f57k q1 b1 k1 hw1 hk1 _)); rintro _ _ ⟨A1, rfl, rfl, hA1⟩))
             | ((apply CallSt.new (GSpec.locNew (H := kH q2 b2 k2) (by repeat (first | exact l2 | with_reducible apply Loc.skip)) (f57k q2 b2 k2 hw2 hk2 _)); rintro _ _ ⟨A2, rfl, rfl, hA2⟩))
             | (((with_reducible refine CallSt.rd (f := 60) (X := .bool true) ?_ ?_); (· rw [← decide_eq_true (show k1.logs.flatten = k2.logs.flatten by rw [hL])]; exact f60 _ _ _ _ _ _ (by omega) (by omega) w1.1 w2.1 _ _ (Rd.appR (Rd.appL (Buf.rd hA1))) (Rd.appL (Buf.rd hA2)))))
             | ((apply CallSt.new (GSpec.locNew (H := kH q1 b1 k1) (by repeat (first | exact l1 | with_reducible apply Loc.skip)) (f59k q1 b1 k1 hw1 hk1 _)); rintro _ _ ⟨A3, B3, rfl, rfl, hA3, hB3⟩))
             | ((apply CallSt.new (GSpec.locNew (H := kH q2 b2 k2) (by repeat (first | exact l2 | with_reducible apply Loc.skip)) (f59k q2 b2 k2 hw2 hk2 _)); rintro _ _ ⟨A4, B4, rfl, rfl, hA4, hB4⟩))
             | (((with_reducible refine CallSt.rd (f := 112) (X := .bool true) ?_ ?_); (· exact e112 A3 B3 A4 B4 _ ⟨Rd.appR (Rd.appL (Rd.appL (Buf.rd hA3))), Rd.appR (Rd.appL (Rd.appR (Buf.rd hB3))), by simp only [List.length_map]; omega, by simp only [List.length_map]; omega⟩ ⟨Rd.appL (Rd.appL (Buf.rd hA4)), Rd.appL (Rd.appR (Buf.rd hB4)), by simp only [List.length_map]; omega, by simp only [List.length_map]; omega⟩)))
             | (((with_reducible apply CallSt.rd (f := 113)); (· (apply GSpec.locRet (H := kH q1 b1 k1)); (· repeat (first | exact l1 | with_reducible apply Loc.skip)); (· exact f113k q1 b1 k1 hk1 _))))
             | (((with_reducible apply CallSt.rd (f := 113)); (· (apply GSpec.locRet (H := kH q2 b2 k2)); (· repeat (first | exact l2 | with_reducible apply Loc.skip)); (· exact f113k q2 b2 k2 hk2 _))))
             | (with_reducible refine NextSt.mk ?_)
             | (with_reducible refine OnBB.tt ?_)
             | ((with_reducible apply Cmp.yes); · first | omega | (with_reducible assumption) | (with_reducible rfl)))
    exact FinSt.ret (((List.sublist_append_right _ _).trans (List.sublist_append_right _ _)).trans ((List.sublist_append_right _ _).trans (List.sublist_append_right _ _))) rfl
  · rw [decide_eq_false hL]
    by_cases hF : k1.logs.flatten = k2.logs.flatten
    · have edt : decide (k1.logs.map (fun q => (q.length : Int)) = k2.logs.map (fun q => (q.length : Int)) ∧ k1.logs.map sumL = k2.logs.map sumL) = false := decide_eq_false fun hx => hL (flat_inj hF hx.1)
      simp only [edt] at e112
      simp only [tyV, List.length_map] at e112
      refine GSpec.enter (fn := Try.f56) Try.func56 rfl (by kernel_rfl) ?_
      repeat' (conv => whnf
               first
               | ((apply CallSt.new (GSpec.locNew (H := kH q1 b1 k1) (by repeat (first | exact l1 | with_reducible apply Loc.skip)) (f57k q1 b1 k1 hw1 hk1 _)); rintro _ _ ⟨A1, rfl, rfl, hA1⟩))
               | ((apply CallSt.new (GSpec.locNew (H := kH q2 b2 k2) (by repeat (first | exact l2 | with_reducible apply Loc.skip)) (f57k q2 b2 k2 hw2 hk2 _)); rintro _ _ ⟨A2, rfl, rfl, hA2⟩))
               | (((with_reducible refine CallSt.rd (f := 60) (X := .bool true) ?_ ?_); (· rw [← decide_eq_true hF]; exact f60 _ _ _ _ _ _ (by omega) (by omega) w1.1 w2.1 _ _ (Rd.appR (Rd.appL (Buf.rd hA1))) (Rd.appL (Buf.rd hA2)))))
               | ((apply CallSt.new (GSpec.locNew (H := kH q1 b1 k1) (by repeat (first | exact l1 | with_reducible apply Loc.skip)) (f59k q1 b1 k1 hw1 hk1 _)); rintro _ _ ⟨A3, B3, rfl, rfl, hA3, hB3⟩))
               | ((apply CallSt.new (GSpec.locNew (H := kH q2 b2 k2) (by repeat (first | exact l2 | with_reducible apply Loc.skip)) (f59k q2 b2 k2 hw2 hk2 _)); rintro _ _ ⟨A4, B4, rfl, rfl, hA4, hB4⟩))
               | (((with_reducible refine CallSt.rd (f := 112) (X := .bool false) ?_ ?_); (· exact e112 A3 B3 A4 B4 _ ⟨Rd.appR (Rd.appL (Rd.appL (Buf.rd hA3))), Rd.appR (Rd.appL (Rd.appR (Buf.rd hB3))), by simp only [List.length_map]; omega, by simp only [List.length_map]; omega⟩ ⟨Rd.appL (Rd.appL (Buf.rd hA4)), Rd.appL (Rd.appR (Buf.rd hB4)), by simp only [List.length_map]; omega, by simp only [List.length_map]; omega⟩)))
               | (with_reducible refine NextSt.mk ?_)
               | (with_reducible refine OnBB.tt ?_)
               | (with_reducible refine OnBB.ff ?_))
      exact FinSt.ret (((List.sublist_append_right _ _).trans (List.sublist_append_right _ _)).trans ((List.sublist_append_right _ _).trans (List.sublist_append_right _ _))) rfl
    · refine GSpec.enter (fn := Try.f56) Try.func56 rfl (by kernel_rfl) ?_
      repeat' (conv => whnf
               first
               | ((apply CallSt.new (GSpec.locNew (H := kH q1 b1 k1) (by repeat (first | exact l1 | with_reducible apply Loc.skip)) (f57k q1 b1 k1 hw1 hk1 _)); rintro _ _ ⟨A1, rfl, rfl, hA1⟩))
               | ((apply CallSt.new (GSpec.locNew (H := kH q2 b2 k2) (by repeat (first | exact l2 | with_reducible apply Loc.skip)) (f57k q2 b2 k2 hw2 hk2 _)); rintro _ _ ⟨A2, rfl, rfl, hA2⟩))
               | (((with_reducible refine CallSt.rd (f := 60) (X := .bool false) ?_ ?_); (· rw [← decide_eq_false hF]; exact f60 _ _ _ _ _ _ (by omega) (by omega) w1.1 w2.1 _ _ (Rd.appR (Rd.appL (Buf.rd hA1))) (Rd.appL (Buf.rd hA2)))))
               | (with_reducible refine NextSt.mk ?_)
               | (with_reducible refine OnBB.ff ?_))
      exact FinSt.ret ((List.sublist_append_right _ _).trans (List.sublist_append_right _ _)) rfl
end Go.Proofs.Ytlbmlimaobkhpaa
/- The program's books: the messages of an office, sums of lists. -/
namespace Go.Proofs.Ytlbmlimaobkhpaa
open Go Go.Gv
set_option maxRecDepth 100000
set_option maxHeartbeats 4000000
set_option linter.unusedSimpArgs false
set_option linter.unusedVariables false
theorem f118 (l : List En) (a : Option Addr) (c : Nat) (hl : l.length ≤ 1000) (h0 : a = none → l = []) (h : View) (O : Hp) (hr : Rd h O a (l.flatMap enV)) :
    GSpec Try.prog 118 [.slice a l.length c] h O (New O (RowR l)) := by
  cases a with
  | none =>
    have := h0 rfl
    subst this
    refine GSpec.enter (fn := Try.f118) Try.func118 rfl (by kernel_rfl) ?_
    repeat' (conv => whnf
             first
             | (((with_reducible apply OnBB.yes); · rfl))
             | (with_reducible refine NextSt.mk ?_))
    exact FinSt.new (H := []) (R := RowR []) (List.Sublist.refl _) ⟨Buf.nil, rfl, rfl, Buf.nil_ok 3⟩
  | some a =>
    refine GSpec.enter (fn := Try.f118) Try.func118 rfl (by kernel_rfl) ?_
    repeat' (conv => whnf
             first
             | (((with_reducible apply OnBB.no); · rfl))
             | (with_reducible refine NextSt.mk ?_)
             | ((with_reducible refine AllocSt.mk ?_); intro _b _hb _hbO))
    conv => whnf
    have hO : Gv.Loc ((_b, Obj.cells ⟨[]⟩ 70 (0, 0)) :: O) ((Buf.of _b 0).hp 70 (([] : List En).flatMap enV)) (fun H' => H' ++ O) := by rw [Buf.of_hp]; exact Gv.Loc.one
    refine AppSt.rowm (b := Buf.of _b 0) (g := enV) (xs := []) (ys := l) (s := 3) (z := .agg ⟨[.int .i64 0, .int .i64 0, .string ⟨⟨[]⟩⟩]⟩) hO (Buf.of_ok rfl) (Rd.cons hr) rfl (fun hx => by cases hx) (fun _ => rfl) (fun _ => rfl) rfl rfl rfl rfl (by show _ * 32 ≤ _; omega) (by omega) ?_
    intro D hD
    rw [List.nil_append, Nat.zero_add] at *
    repeat' (conv => whnf
             first
             | (with_reducible refine NextSt.mk ?_))
    exact FinSt.new (H := D.hp 70 (l.flatMap enV)) (R := RowR l) (List.Sublist.refl _) ⟨D, rfl, rfl, hD⟩
theorem f74 (l : List En) (a : Option Addr) (c : Nat) (hl : l.length ≤ 1000) (hok : ∀ e ∈ l, enOk e) (h : View) (O : Hp) (hr : Rd h O a (l.flatMap enV)) :
    GSpec Try.prog 74 [.slice a l.length c] h O (Ret O (.tuple ⟨[uN (sumL l), .int .i64 0]⟩)) := by
  refine GSpec.enter (fn := Try.f74) Try.func74 rfl (by kernel_rfl) ?_
  repeat' (conv => whnf
           first
           | (with_reducible refine NextSt.mk ?_))
  refine LoopSt.fix [2, 3, 5, 6, 9, 10, 11, 12, 13, 14, 15, 16, 17, 18] (fun (k : Nat) => [(9, iN k)]) (fun _ => _) (fun k => k ≤ l.length) (fun k => l.length - k) (0) _ (Wk.refl _ _) (rfl) ?_ ?_ ?_
  · repeat' (first | exact True.intro | refine And.intro ?_ ?_ | rfl | exact congrArg (Value.int _) (by omega) | exact congrArg (fun n => Value.slice _ n _) (by (try dsimp only); omega))
  · exact Nat.zero_le _
  · intro k d2 hk
    by_cases hkl : k < l.length
    · have hok1 := hok _ (getD_mem' (d := default) hkl)
      have e82 := fun h O => f82 (l.getD k default) (by have := hok1.2.2.2.2; omega) h O
      rw [show chkE (l.getD k default) = 0 from if_pos hok1] at e82
      repeat' (conv => whnf
               first
               | ((with_reducible refine CallSt.rd (f := 82) (X := .int .i64 0) ?_ ?_); (· exact e82 _ _))
               | (((with_reducible apply Cmp.no); · exact fun h => h rfl))
               | ((with_reducible apply LoadSt.rdg (g := enV) (s := 3)); (· rfl); (· (repeat (first | with_reducible assumption | (with_reducible apply Buf.rd; with_reducible assumption) | (with_reducible apply Rd.appL; with_reducible assumption) | (with_reducible apply Rd.appL; with_reducible apply Buf.rd; with_reducible assumption) | with_reducible apply Rd.cons | with_reducible apply Rd.appR))); (· exact fun _ => rfl); (· decide); · (first | omega | (simp only [List.length_map, List.length_append, List.length_cons, List.length_nil, List.length_take, List.length_drop, List.length_replicate, List.length_set] at *; omega)))
               | ((with_reducible apply IdxSl.rdg (g := enV) (s := 3)); (· with_reducible assumption); (· exact fun _ => rfl); (· decide); (· rfl); (· first | with_reducible rfl | exact natL _); (· (first | omega | (simp only [List.length_map, List.length_append, List.length_cons, List.length_nil, List.length_take, List.length_drop, List.length_replicate, List.length_set] at *; omega))); · (first | omega | (simp only [List.length_map, List.length_append, List.length_cons, List.length_nil, List.length_take, List.length_drop, List.length_replicate, List.length_set] at *; omega)))
               | (with_reducible refine NextSt.mk ?_)
               | (with_reducible refine OnBB.tt ?_)
               | (with_reducible refine OnBB.ff ?_)
               | ((with_reducible apply NW.addN); (· first | with_reducible rfl | exact natL _); (· first | with_reducible rfl | exact natL _); (· omega))
               | ((with_reducible apply Cmp.yes); · first | omega | (with_reducible assumption) | (with_reducible rfl))
               | ((with_reducible apply LoadSt.boxAgg); · (repeat (first | exact List.Mem.head _ | with_reducible apply List.mem_append_right | with_reducible apply List.mem_cons_of_mem)))
               | ((with_reducible refine AllocSt.mk ?_); intro _b _hb _hbO)
               | ((with_reducible apply StoreSt.box); (· (repeat (first | exact Upd.hd | apply Upd.tl | apply Upd.app))); (· rfl); (· rfl); (· rfl)))
      refine RoundFix.mk (k + 1) ?_ ?_ _ rfl (Wk.drop (by (try dsimp only); (try simp only [List.cons_append, List.nil_append]); (repeat (first | with_reducible exact List.Sublist.refl _ | with_reducible exact List.nil_sublist _ | with_reducible apply List.Sublist.cons_cons | with_reducible apply sub_app | apply List.Sublist.cons_cons | apply sub_app | with_reducible apply List.Sublist.cons | with_reducible apply sub_skip)))) ?_
      · omega
      · repeat' (first | exact True.intro | refine And.intro ?_ ?_ | rfl | exact congrArg (Value.int _) (by omega) | exact congrArg (fun n => Value.slice _ n _) (by (try dsimp only); omega))
      · omega
    · have : k = l.length := by omega
      subst this
      repeat' (conv => whnf
               first
               | ((with_reducible refine CallSt.rd (f := 117) (X := uN (sumL l)) ?_ ?_); (· exact f117 l a c hl hok _ _ hr))
               | (with_reducible refine NextSt.mk ?_)
               | (with_reducible refine OnBB.ff ?_)
               | ((with_reducible apply Cmp.no); · first | omega | (with_reducible assumption)))
      conv => whnf
      refine FinSt.ret (by (try dsimp only); (try simp only [List.cons_append, List.nil_append]); (repeat (first | with_reducible exact List.Sublist.refl _ | with_reducible exact List.nil_sublist _ | with_reducible apply List.Sublist.cons_cons | with_reducible apply sub_app | apply List.Sublist.cons_cons | apply sub_app | with_reducible apply List.Sublist.cons | with_reducible apply sub_skip))) ?_
      rfl
/-- The messages of an office, and no error. -/
def RowE (l : List En) (v : Value) (H : Hp) : Prop := ∃ B : Buf, v = .tuple ⟨[.slice B.a l.length B.cap, .int .i64 0]⟩ ∧ H = B.hp 70 (l.flatMap enV) ∧ B.ok 3 (l.flatMap enV) l.length
theorem f62 (w : Nat) (b : Br) (K : Bk) (p : Nat) (hp : p < K.logs.length) (hw : wfL K.logs) (hk : kOk b K) (h : View) : GSpec Try.prog 62 [pP b.p, iN p] h (kH w b K) (New (kH w b K) (RowE (K.logs.getD p []))) := by
  have hlg := hk.logs
  have hlen := logs_len b
  have hb8 := hw.len
  rw [← hlg] at hw hp hb8 ⊢
  have hpl : p < b.ls.length := by omega
  have hlk := logs_get hpl
  have hl64 := hw.log p hp
  rw [hlk] at hl64 ⊢
  have hrd := lgHp_rd (w := h) hk.ls hpl
  have hqb := hk.ls.get hpl
  refine GSpec.enter (fn := Try.f62) Try.func62 rfl (by kernel_rfl) ?_
  repeat' (conv => whnf
           first
           | (((with_reducible apply LoadSt.ownd (g := slV)); (· (repeat (first | exact List.Mem.head _ | with_reducible apply List.mem_append_right | with_reducible apply List.mem_cons_of_mem))); (· (first | exact Nat.zero_add _ | with_reducible rfl | omega | (show _ + _ * 1 = _; omega))); (· (first | omega | (simp only [List.length_map, List.length_append, List.length_cons, List.length_nil, List.length_take, List.length_drop, List.length_replicate, List.length_set] at *; omega)))); unfold slV)
           | ((apply CallSt.new (f118 (b.ls.getD p default).2 (b.ls.getD p default).1.a (b.ls.getD p default).1.cap (by omega) (fun hx => List.eq_nil_of_length_eq_zero (Buf.none_len hqb hx)) _ _ (Rd.cons (Rd.cons hrd))); rintro _ _ ⟨B, rfl, rfl, hB⟩))
           | ((with_reducible apply CallSt.decY (f := 93)); (· (apply GSpec.cast (sp := f93 _ _ _ _); (· (repeat' (first | with_reducible rfl | refine congrArg₂ List.cons ?_ ?_ | exact iN_lit _ | rfl))); all_goals (first | with_reducible assumption | omega | ((repeat (first | with_reducible assumption | with_reducible apply xor_lt | with_reducible apply mul_lt | with_reducible exact pw_lt _ | with_reducible exact inv_lt _ | omega)); done) | ((repeat (first | with_reducible assumption | (with_reducible apply Buf.rd; with_reducible assumption) | (with_reducible apply Rd.appL; with_reducible assumption) | (with_reducible apply Rd.appL; with_reducible apply Buf.rd; with_reducible assumption) | with_reducible apply Rd.cons | with_reducible apply Rd.appR)); done) | decide))); · omega)
           | (with_reducible refine NextSt.mk ?_)
           | (with_reducible refine OnBB.tt ?_)
           | (with_reducible refine OnBB.ff ?_)
           | ((with_reducible apply LoadSt.box); · (repeat (first | exact List.Mem.head _ | with_reducible apply List.mem_append_right | with_reducible apply List.mem_cons_of_mem)))
           | ((with_reducible apply IdxSl.own1); (· rfl); (· first | with_reducible rfl | exact natL _); · (first | omega | (simp only [List.length_map, List.length_append, List.length_cons, List.length_nil, List.length_take, List.length_drop, List.length_replicate, List.length_set] at *; omega))))
  exact FinSt.new (H := B.hp 70 ((b.ls.getD p default).2.flatMap enV)) (R := RowE (b.ls.getD p default).2) (List.Sublist.refl _) ⟨B, rfl, rfl, hB⟩
theorem f63 (l m : List En) (a1 a2 : Option Addr) (c1 c2 : Nat) (hl : l.length ≤ 1000) (hm : m.length ≤ 1000) (h1 : l.length ≤ c1) (h2 : m.length ≤ c2) (hlo : ∀ e ∈ l, enOk e) (hmo : ∀ e ∈ m, enOk e) (h : View) (O : Hp) (r1 : Rd h O a1 (l.flatMap enV)) (r2 : Rd h O a2 (m.flatMap enV)) :
    GSpec Try.prog 63 [.slice a1 l.length c1, .slice a2 m.length c2] h O (RetR O fun v => ∃ b : Bool, v = .bool b ∧ (b = true → plainL l m)) := by
  refine GSpec.enter (fn := Try.f63) Try.func63 rfl (by kernel_rfl) ?_
  repeat' (conv => whnf
           first
           | (with_reducible refine NextSt.mk ?_))
  refine LoopSt.fix [4, 5, 6, 7, 8, 9, 10, 11, 12, 13, 14, 15, 16, 17, 18, 19, 20, 21, 22, 23, 24, 25, 26, 27, 28, 29, 30, 31, 32, 33, 34, 35, 36, 37, 38, 39, 40, 41, 42, 43, 44, 45, 46, 47, 48, 49, 50, 51, 52, 53, 54, 55, 56] (fun (n : Nat) => [(5, iN n)]) (fun _ => _) (fun n => n ≤ l.length + 1 ∧ ∀ i, i < n → i ≤ l.length → i ≤ m.length → sumL (l.take i) = sumL (m.take i) → l.take i = m.take i) (fun n => l.length + 1 - n) (0) _ (Wk.refl _ _) (rfl) ?_ ?_ ?_
  · repeat' (first | exact True.intro | refine And.intro ?_ ?_ | rfl | exact congrArg (Value.int _) (by omega) | exact congrArg (fun n => Value.slice _ n _) (by (try dsimp only); omega))
  · exact ⟨Nat.zero_le _, fun i hi => by omega⟩
  · rintro n d2 ⟨hn, hi⟩
    dsimp only at hn hi ⊢
    by_cases n1 : n ≤ l.length
    · by_cases n2 : n ≤ m.length
      · have l1 : (l.take n).length = n := by rw [List.length_take]; omega
        have l2 : (m.take n).length = n := by rw [List.length_take]; omega
        have q1 : Rd h O a1 ((l.take n).flatMap enV) := by rw [← fl_take]; exact r1.take _
        have q2 : Rd h O a2 ((m.take n).flatMap enV) := by rw [← fl_take]; exact r2.take _
        have e1 := f74 (l.take n) a1 c1 (by omega) (fun e he => hlo e (List.mem_of_mem_take he)) h O q1
        have e2 := f74 (m.take n) a2 c2 (by omega) (fun e he => hmo e (List.mem_of_mem_take he)) h O q2
        have e3 := f60 (l.take n) (m.take n) a1 a2 c1 c2 (by omega) (by omega) (fun e he => (hlo e (List.mem_of_mem_take he)).w) (fun e he => (hmo e (List.mem_of_mem_take he)).w) h O q1 q2
        rw [l1] at e1 e3
        rw [l2] at e2 e3
        by_cases hs : sumL (l.take n) = sumL (m.take n)
        · by_cases ht : l.take n = m.take n
          · rw [decide_eq_true ht] at e3
            repeat' (conv => whnf
                     first
                     | (((apply SlSl.hi (r := n)); (· rfl); (· omega)))
                     | ((with_reducible refine CallSt.rd (f := 74) (X := .tuple ⟨[uN (sumL (l.take n)), .int .i64 0]⟩) ?_ ?_); (· (apply GSpec.cast (sp := e1)); (· (repeat' (first | with_reducible rfl | refine congrArg₂ List.cons ?_ ?_ | exact iN_lit _ | rfl)))))
                     | ((with_reducible refine CallSt.rd (f := 74) (X := .tuple ⟨[uN (sumL (m.take n)), .int .i64 0]⟩) ?_ ?_); (· (apply GSpec.cast (sp := e2)); (· (repeat' (first | with_reducible rfl | refine congrArg₂ List.cons ?_ ?_ | exact iN_lit _ | rfl)))))
                     | (((with_reducible apply Cmp.no); · exact fun h => h rfl))
                     | (((with_reducible apply Cmp.yes); · (rw [hs])))
                     | ((with_reducible refine CallG.rd (f := 60) (X := .bool true) ?_ ?_); (· exact e3))
                     | ((with_reducible refine DrawSt.walk [0, 1, 2, 3, 4, 5, 6, 7, 8, 9, 10, 11, 12, 13, 14, 15, 16, 17, 18, 19, 20] mixed ?_ ?_); · decide +kernel)
                     | (with_reducible refine NextSt.mk ?_)
                     | (with_reducible refine OnBB.tt ?_)
                     | (with_reducible refine OnBB.ff ?_)
                     | ((with_reducible apply NW.addN); (· first | with_reducible rfl | exact natL _); (· first | with_reducible rfl | exact natL _); (· omega))
                     | ((with_reducible apply Cmp.yes); · first | omega | (with_reducible assumption) | (with_reducible rfl)))
            refine RoundFix.mk (n + 1) ?_ ?_ _ rfl (Wk.drop (by (try dsimp only); (try simp only [List.cons_append, List.nil_append]); (repeat (first | with_reducible exact List.Sublist.refl _ | with_reducible exact List.nil_sublist _ | with_reducible apply List.Sublist.cons_cons | with_reducible apply sub_app | apply List.Sublist.cons_cons | apply sub_app | with_reducible apply List.Sublist.cons | with_reducible apply sub_skip)))) ?_
            · omega
            · repeat' (first | exact True.intro | refine And.intro ?_ ?_ | rfl | exact congrArg (Value.int _) (by omega) | exact congrArg (fun n => Value.slice _ n _) (by (try dsimp only); omega))
            · refine ⟨by omega, fun i h3 h4 h5 h6 => ?_⟩
              by_cases h7 : i = n
              · subst h7; exact ht
              · exact hi i (by omega) h4 h5 h6
          · rw [decide_eq_false ht] at e3
            repeat' (conv => whnf
                     first
                     | (((apply SlSl.hi (r := n)); (· rfl); (· omega)))
                     | ((with_reducible refine CallSt.rd (f := 74) (X := .tuple ⟨[uN (sumL (l.take n)), .int .i64 0]⟩) ?_ ?_); (· (apply GSpec.cast (sp := e1)); (· (repeat' (first | with_reducible rfl | refine congrArg₂ List.cons ?_ ?_ | exact iN_lit _ | rfl)))))
                     | ((with_reducible refine CallSt.rd (f := 74) (X := .tuple ⟨[uN (sumL (m.take n)), .int .i64 0]⟩) ?_ ?_); (· (apply GSpec.cast (sp := e2)); (· (repeat' (first | with_reducible rfl | refine congrArg₂ List.cons ?_ ?_ | exact iN_lit _ | rfl)))))
                     | (((with_reducible apply Cmp.no); · exact fun h => h rfl))
                     | (((with_reducible apply Cmp.yes); · (rw [hs])))
                     | ((with_reducible refine CallG.rd (f := 60) (X := .bool false) ?_ ?_); (· exact e3))
                     | ((with_reducible refine DrawSt.walk [0, 1, 2, 3, 4, 5, 6, 7, 8, 9, 10, 11, 12, 13, 14, 15, 16, 17, 18, 19, 20] mixed ?_ ?_); · decide +kernel)
                     | (with_reducible refine NextSt.mk ?_)
                     | (with_reducible refine OnBB.tt ?_)
                     | (with_reducible refine OnBB.ff ?_)
                     | ((with_reducible apply Cmp.yes); · first | omega | (with_reducible assumption) | (with_reducible rfl)))
            exact .mk h O (Wk.refl _ _) ⟨rfl, false, rfl, fun hx => by cases hx⟩
        · repeat' (conv => whnf
                   first
                   | (((apply SlSl.hi (r := n)); (· rfl); (· omega)))
                   | ((with_reducible refine CallSt.rd (f := 74) (X := .tuple ⟨[uN (sumL (l.take n)), .int .i64 0]⟩) ?_ ?_); (· (apply GSpec.cast (sp := e1)); (· (repeat' (first | with_reducible rfl | refine congrArg₂ List.cons ?_ ?_ | exact iN_lit _ | rfl)))))
                   | ((with_reducible refine CallSt.rd (f := 74) (X := .tuple ⟨[uN (sumL (m.take n)), .int .i64 0]⟩) ?_ ?_); (· (apply GSpec.cast (sp := e2)); (· (repeat' (first | with_reducible rfl | refine congrArg₂ List.cons ?_ ?_ | exact iN_lit _ | rfl)))))
                   | (((with_reducible apply Cmp.no); · exact fun h => h rfl))
                   | (((with_reducible apply Cmp.no); · (exact fun h => hs (by omega))))
                   | ((with_reducible refine DrawSt.walk [0, 1, 2, 3, 4, 5, 6, 7, 8, 9, 10, 11, 12, 13, 14, 15, 16, 17, 18, 19, 20] mixed ?_ ?_); · decide +kernel)
                   | (with_reducible refine NextSt.mk ?_)
                   | (with_reducible refine OnBB.tt ?_)
                   | (with_reducible refine OnBB.ff ?_)
                   | ((with_reducible apply NW.addN); (· first | with_reducible rfl | exact natL _); (· first | with_reducible rfl | exact natL _); (· omega))
                   | ((with_reducible apply Cmp.yes); · first | omega | (with_reducible assumption) | (with_reducible rfl)))
          refine RoundFix.mk (n + 1) ?_ ?_ _ rfl (Wk.drop (by (try dsimp only); (try simp only [List.cons_append, List.nil_append]); (repeat (first | with_reducible exact List.Sublist.refl _ | with_reducible exact List.nil_sublist _ | with_reducible apply List.Sublist.cons_cons | with_reducible apply sub_app | apply List.Sublist.cons_cons | apply sub_app | with_reducible apply List.Sublist.cons | with_reducible apply sub_skip)))) ?_
          · omega
          · repeat' (first | exact True.intro | refine And.intro ?_ ?_ | rfl | exact congrArg (Value.int _) (by omega) | exact congrArg (fun n => Value.slice _ n _) (by (try dsimp only); omega))
          · refine ⟨by omega, fun i h3 h4 h5 h6 => ?_⟩
            by_cases h7 : i = n
            · subst h7; exact absurd h6 hs
            · exact hi i (by omega) h4 h5 h6
      · repeat' (conv => whnf
                 first
                 | (with_reducible refine NextSt.mk ?_)
                 | (with_reducible refine OnBB.tt ?_)
                 | (with_reducible refine OnBB.ff ?_)
                 | ((with_reducible apply Cmp.yes); · first | omega | (with_reducible assumption) | (with_reducible rfl))
                 | ((with_reducible apply Cmp.no); · first | omega | (with_reducible assumption)))
        exact .mk h O (Wk.refl _ _) ⟨rfl, true, rfl, fun _ i h4 h5 h6 => hi i (by omega) h4 h5 h6⟩
    · repeat' (conv => whnf
               first
               | (with_reducible refine NextSt.mk ?_)
               | (with_reducible refine OnBB.ff ?_)
               | ((with_reducible apply Cmp.no); · first | omega | (with_reducible assumption)))
      exact .mk h O (Wk.refl _ _) ⟨rfl, true, rfl, fun _ i h4 h5 h6 => hi i (by omega) h4 h5 h6⟩
end Go.Proofs.Ytlbmlimaobkhpaa
