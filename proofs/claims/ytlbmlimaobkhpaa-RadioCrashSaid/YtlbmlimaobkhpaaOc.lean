/- Books: what their own blocks tell. -/
import Derived.Test.YtlbmlimaobkhpaaOa
import Derived.Test.YtlbmlimaobkhpaaGd
set_option linter.unusedVariables false
set_option linter.unusedSimpArgs false
set_option linter.unusedSectionVars false
/- Books: what only their own blocks tell, whoever has their disk. -/
namespace Go.Proofs.Ytlbmlimaobkhpaa
open Go Go.Gv
set_option maxRecDepth 100000
set_option maxHeartbeats 4000000
set_option linter.unusedSimpArgs false
set_option linter.unusedVariables false
/-- A book's own blocks. -/
abbrev kH (q : Nat) (b : Br) (k : Bk) : Hp := bkc b.p (bkV b) q k.at_ k.falls :: lgc b :: lgHp b.ls
structure kOk (b : Br) (k : Bk) : Prop where
  logs : b.logs = k.logs
  ls : lOk b.ls
theorem bOk.k {r : Dr} {d : Dk} {b : Br} {k : Bk} (h : bOk r d b k) : kOk b k := ⟨h.logs, h.ls⟩
theorem f57k (w : Nat) (b : Br) (k : Bk) (hw : wfL k.logs) (hk : kOk b k) (h : View) : GSpec Try.prog 57 [pP b.p] h (kH w b k) (New (kH w b k) (RowR k.logs.flatten)) := by
  have hlg := hk.logs
  have hlen := logs_len b
  have hwb : wfL b.logs := by rw [hlg]; exact hw
  have hb8 := hwb.len
  have hflat : catL b.ls = k.logs.flatten := by rw [← hlg]; simp [catL, Br.logs, List.flatMap]
  have hmem : ∀ q ∈ b.ls, ∃ i < b.ls.length, b.ls.getD i default = q := fun q hq => by
    obtain ⟨i, hi, e⟩ := List.getElem_of_mem hq
    exact ⟨i, hi, by rw [List.getD_eq_getElem?_getD, List.getElem?_eq_getElem hi]; exact e⟩
  have e114 := fun h O hr hqr => f114 b.ls (some ⟨b.lp, 0, none⟩) b.ls.length (by omega) (fun q hq => by
    obtain ⟨i, hi, rfl⟩ := hmem q hq
    have := hwb.log i (by omega)
    rwa [logs_get hi] at this) (fun q hq ha => Buf.none_len (hk.ls q hq) ha) h O hr hqr
  rw [hflat] at e114
  refine GSpec.enter (fn := Try.f57) Try.func57 rfl (by kernel_rfl) ?_
  repeat' (conv => whnf
           first
           | (((apply CallSt.new (f := 114)); (· exact e114 _ _ (Rd.cons (Rd.own0 (List.Mem.head _))) (fun q hq => by obtain ⟨i, hi, rfl⟩ := hmem q hq; exact Rd.cons (Rd.cons (lgHp_rd hk.ls hi)))); rintro _ _ ⟨A, rfl, rfl, hA⟩))
           | (with_reducible refine NextSt.mk ?_)
           | ((with_reducible apply LoadSt.box); · (repeat (first | exact List.Mem.head _ | with_reducible apply List.mem_append_right | with_reducible apply List.mem_cons_of_mem))))
  refine FinSt.new (H := A.hp 70 (k.logs.flatten.flatMap enV)) (R := RowR k.logs.flatten) (List.Sublist.refl _) ⟨A, rfl, rfl, hA⟩
theorem f59k (w : Nat) (b : Br) (K : Bk) (hw : wfL K.logs) (hk : kOk b K) (h : View) : GSpec Try.prog 59 [pP b.p] h (kH w b K) (New (kH w b K) (TyR K.logs)) := by
  have hlg := hk.logs
  have hlen := logs_len b
  have hwb : wfL b.logs := by rw [hlg]; exact hw
  have hb8 := hwb.len
  refine GSpec.enter (fn := Try.f59) Try.func59 rfl (by kernel_rfl) ?_
  repeat' (conv => whnf
           first
           | (with_reducible refine NextSt.mk ?_)
           | ((with_reducible apply LoadSt.box); · (repeat (first | exact List.Mem.head _ | with_reducible apply List.mem_append_right | with_reducible apply List.mem_cons_of_mem)))
           | ((with_reducible refine AllocSt.mk ?_); intro _b _hb _hbO))
  refine LoopSt.fix [4, 10, 11, 12, 13, 14, 15, 16, 17, 18, 19, 20, 21, 22, 23, 24, 25, 26, 27, 28] (fun ((k, A, B) : Nat × Buf × Buf) => [(10, iN k)]) (fun (k, A, B) => (_b, .cells ⟨[.slice A.a k A.cap, .slice B.a k B.cap]⟩ 81 (0, 0)) :: (A.hp 3 (((b.logs.take k).map fun q => (q.length : Int)).map zV) ++ (B.hp 108 (((b.logs.take k).map sumL).map uN) ++ kH w b K))) (fun (k, A, B) => k ≤ b.ls.length ∧ A.ok 1 (((b.logs.take k).map fun q => (q.length : Int)).map zV) k ∧ B.ok 1 (((b.logs.take k).map sumL).map uN) k) (fun (k, A, B) => b.ls.length - k) ((0, Buf.nil, Buf.nil)) _ (Wk.refl _ _) (rfl) ?_ ?_ ?_
  · repeat' (first | exact True.intro | refine And.intro ?_ ?_ | rfl | exact congrArg (Value.int _) (by omega) | exact congrArg (fun n => Value.slice _ n _) (by (try dsimp only); omega))
  · exact ⟨Nat.zero_le _, Buf.nil_ok 1, Buf.nil_ok 1⟩
  · rintro ⟨k, A, B⟩ d2 ⟨hk2, hA, hB⟩
    dsimp only at hk2 hA hB ⊢
    by_cases hkl : k < b.ls.length
    · have hlk := logs_get hkl
      have hkl2 : k < b.logs.length := by omega
      have hl64 := hwb.log k hkl2
      have henk := hwb.en k hkl2
      rw [hlk] at hl64 henk
      have hen : ∀ e ∈ (b.ls.getD k default).2, enOk e := fun e he => by
        obtain ⟨i, hi, rfl⟩ := List.getElem_of_mem he
        have := (henk i hi).1
        rwa [List.getD_eq_getElem?_getD, List.getElem?_eq_getElem hi] at this
      have hrd := lgHp_rd (w := h) hk.ls hkl
      repeat' (conv => whnf
               first
               | (((with_reducible apply LoadSt.ownd (g := slV)); (· (repeat (first | exact List.Mem.head _ | with_reducible apply List.mem_append_right | with_reducible apply List.mem_cons_of_mem))); (· (first | exact Nat.zero_add _ | with_reducible rfl | omega | (show _ + _ * 1 = _; omega))); (· (first | omega | (simp only [List.length_map, List.length_append, List.length_cons, List.length_nil, List.length_take, List.length_drop, List.length_replicate, List.length_set] at *; omega)))); unfold slV)
               | (((with_reducible apply AppSt.lit1 (g := zV) (x := ((b.ls.getD k default).2.length : Int)) (z := .int .i64 0)); (· (repeat (first | with_reducible exact Loc.hd | with_reducible exact Loc.last | with_reducible exact Loc.one | with_reducible apply Loc.tl | with_reducible apply Loc.skip))); (· exact hA); (· (repeat (first | exact List.Mem.head _ | with_reducible apply List.mem_append_right | with_reducible apply List.mem_cons_of_mem))); (· rfl); (· rfl); (· rfl); (· rfl); (· rfl); (· rfl); (· (show _ * 8 ≤ _; omega)); (· omega); intro A' hA'))
               | (((with_reducible refine CallG.rd (f := 117) (X := uN (sumL (b.ls.getD k default).2)) ?_ ?_); (· exact f117 (b.ls.getD k default).2 _ _ (by omega) hen _ _ (by (repeat (first | with_reducible assumption | (with_reducible apply Buf.rd; with_reducible assumption) | (with_reducible apply Rd.appL; with_reducible assumption) | (with_reducible apply Rd.appL; with_reducible apply Buf.rd; with_reducible assumption) | with_reducible apply Rd.cons | with_reducible apply Rd.appR))))))
               | (((with_reducible apply AppSt.lit1 (g := uN) (x := sumL (b.ls.getD k default).2) (z := .int .u64 0)); (· (repeat (first | with_reducible exact Loc.hd | with_reducible exact Loc.last | with_reducible exact Loc.one | with_reducible apply Loc.tl | with_reducible apply Loc.skip))); (· exact hB); (· (repeat (first | exact List.Mem.head _ | with_reducible apply List.mem_append_right | with_reducible apply List.mem_cons_of_mem))); (· rfl); (· rfl); (· rfl); (· rfl); (· rfl); (· rfl); (· (show _ * 8 ≤ _; omega)); (· omega); intro B' hB'))
               | ((with_reducible refine DrawSt.walk [0, 1, 2, 3, 4, 5, 6, 7] mixed ?_ ?_); · decide +kernel)
               | (with_reducible refine NextSt.mk ?_)
               | (with_reducible refine OnBB.tt ?_)
               | ((with_reducible apply NW.addN); (· first | with_reducible rfl | exact natL _); (· first | with_reducible rfl | exact natL _); (· omega))
               | ((with_reducible apply Cmp.yes); · first | omega | (with_reducible assumption) | (with_reducible rfl))
               | ((with_reducible apply LoadSt.box); · (repeat (first | exact List.Mem.head _ | with_reducible apply List.mem_append_right | with_reducible apply List.mem_cons_of_mem)))
               | ((with_reducible refine AllocSt.mk ?_); intro _b _hb _hbO)
               | ((with_reducible apply StoreSt.box); (· (repeat (first | exact Upd.hd | apply Upd.tl | apply Upd.app))); (· rfl); (· rfl); (· rfl))
               | ((with_reducible apply IdxSl.own1); (· rfl); (· first | with_reducible rfl | exact natL _); · (first | omega | (simp only [List.length_map, List.length_append, List.length_cons, List.length_nil, List.length_take, List.length_drop, List.length_replicate, List.length_set] at *; omega))))
      have e1 : (b.logs.take k).map (fun q => (q.length : Int)) ++ [((b.ls.getD k default).2.length : Int)] = (b.logs.take (k + 1)).map (fun q => (q.length : Int)) := by rw [take_succ (d := []) hkl2, List.map_append, hlk]; rfl
      have e2 : (b.logs.take k).map sumL ++ [sumL (b.ls.getD k default).2] = (b.logs.take (k + 1)).map sumL := by rw [take_succ (d := []) hkl2, List.map_append, hlk]; rfl
      rw [e1] at hA' ⊢
      rw [e2] at hB' ⊢
      refine RoundFix.mk ((k + 1, A', B')) ?_ ?_ _ rfl (Wk.drop (by (try dsimp only); (try simp only [List.cons_append, List.nil_append]); (repeat (first | with_reducible exact List.Sublist.refl _ | with_reducible exact List.nil_sublist _ | with_reducible apply List.Sublist.cons_cons | with_reducible apply sub_app | apply List.Sublist.cons_cons | apply sub_app | with_reducible apply List.Sublist.cons | with_reducible apply sub_skip)))) ?_
      · dsimp only; omega
      · repeat' (first | exact True.intro | refine And.intro ?_ ?_ | rfl | exact congrArg (Value.int _) (by omega) | exact congrArg (fun n => Value.slice _ n _) (by (try dsimp only); omega))
      · exact ⟨by omega, hA', hB'⟩
    · have : k = b.ls.length := by omega
      subst this
      rw [List.take_of_length_le (by omega)] at hA hB ⊢
      rw [← hlen, hlg] at hA hB ⊢
      repeat' (conv => whnf
               first
               | (with_reducible refine NextSt.mk ?_)
               | (with_reducible refine OnBB.ff ?_)
               | ((with_reducible apply Cmp.no); · first | omega | (with_reducible assumption))
               | ((with_reducible apply LoadSt.boxAgg); · (repeat (first | exact List.Mem.head _ | with_reducible apply List.mem_append_right | with_reducible apply List.mem_cons_of_mem)))
               | ((with_reducible apply StoreSt.box); (· (repeat (first | exact Upd.hd | apply Upd.tl | apply Upd.app))); (· rfl); (· rfl); (· rfl)))
      exact FinSt.new (H := A.hp 3 ((K.logs.map fun q => (q.length : Int)).map zV) ++ B.hp 108 ((K.logs.map sumL).map uN)) (R := TyR K.logs) (List.Sublist.cons _ (by rw [List.append_assoc]; exact List.Sublist.refl _)) ⟨A, B, rfl, rfl, hA, hB⟩
theorem f113k (w : Nat) (b : Br) (k : Bk) (hk : kOk b k) (h : View) : GSpec Try.prog 113 [pP b.p] h (kH w b k) (Ret (kH w b k) (iN k.logs.length)) := by
  have hl : k.logs.length = b.ls.length := by rw [← hk.logs, logs_len]
  rw [hl]
  refine GSpec.enter (fn := Try.f113) Try.func113 rfl (by kernel_rfl) ?_
  repeat' (conv => whnf
           first
           | (with_reducible refine NextSt.mk ?_)
           | ((with_reducible apply LoadSt.box); · (repeat (first | exact List.Mem.head _ | with_reducible apply List.mem_append_right | with_reducible apply List.mem_cons_of_mem))))
  conv => whnf
  refine FinSt.ret (by (try dsimp only); (try simp only [List.cons_append, List.nil_append]); (repeat (first | with_reducible exact List.Sublist.refl _ | with_reducible exact List.nil_sublist _ | with_reducible apply List.Sublist.cons_cons | with_reducible apply sub_app | apply List.Sublist.cons_cons | apply sub_app | with_reducible apply List.Sublist.cons | with_reducible apply sub_skip))) ?_
  rfl
theorem flat_inj : ∀ {L M : List (List En)}, L.flatten = M.flatten → L.map (fun q => (q.length : Int)) = M.map (fun q => (q.length : Int)) → L = M
  | [], [], _, _ => rfl
  | [], _ :: _, _, h => by cases h
  | _ :: _, [], _, h => by cases h
  | q :: L, p :: M, h, h2 => by
    rw [List.map_cons, List.map_cons] at h2
    injection h2 with h3 h4
    rw [List.flatten_cons, List.flatten_cons] at h
    obtain ⟨h5, h6⟩ := List.append_inj h (by omega)
    rw [h5, flat_inj h6 h4]
theorem f56k (q1 q2 : Nat) (b1 b2 : Br) (k1 k2 : Bk) (O : Hp) {φ ψ : Hp → Hp} (l1 : Gv.Loc O (kH q1 b1 k1) φ) (l2 : Gv.Loc O (kH q2 b2 k2) ψ) (hw1 : wfL k1.logs) (hw2 : wfL k2.logs) (hk1 : kOk b1 k1) (hk2 : kOk b2 k2)
    (h : View) : GSpec Try.prog 56 [pP b1.p, pP b2.p] h O (Ret O (.bool (decide (k1.logs = k2.logs)))) := by
  have w1 := hw1.flat
  have w2 := hw2.flat
  have m1 := hw1.len
  have m2 := hw2.len
  have e112 := fun (A3 B3 A4 B4 : Buf) O hs ht => f112 ⟨A3.a, A3.cap, k1.logs.map fun q => (q.length : Int), B3.a, B3.cap, k1.logs.map sumL⟩ ⟨A4.a, A4.cap, k2.logs.map fun q => (q.length : Int), B4.a, B4.cap, k2.logs.map sumL⟩ h O hs ht
  by_cases hL : k1.logs = k2.logs
  · have m3 : k1.logs.length = k2.logs.length := by rw [hL]
    have edt : decide (k1.logs.map (fun q => (q.length : Int)) = k2.logs.map (fun q => (q.length : Int)) ∧ k1.logs.map sumL = k2.logs.map sumL) = true := decide_eq_true (by rw [hL]; exact ⟨rfl, rfl⟩)
    simp only [edt] at e112
    simp only [tyV, List.length_map] at e112
    rw [decide_eq_true hL]
    refine GSpec.enter (fn := Try.f56) Try.func56 rfl (by kernel_rfl) ?_
    repeat' (conv => whnf
             first
             | ((apply CallSt.new (GSpec.locNew (H := kH q1 b1 k1) (by repeat (first | exact l1 | with_reducible apply Loc.skip)) (f57k q1 b1 k1 hw1 hk1 _)); rintro _ _ ⟨A1, rfl, rfl, hA1⟩))
             | ((apply CallSt.new (GSpec.locNew (H := kH q2 b2 k2) (by repeat (first | exact l2 | with_reducible apply Loc.skip)) (f57k q2 b2 k2 hw2 hk2 _)); rintro _ _ ⟨A2, rfl, rfl, hA2⟩))
             | (((with_reducible refine CallSt.rd (f := 60) (X := .bool true) ?_ ?_); (· rw [← decide_eq_true (show k1.logs.flatten = k2.logs.flatten by rw [hL])]; exact f60 _ _ _ _ _ _ (by omega) (by omega) w1.1 w2.1 _ _ (Rd.appR (Rd.appL (Buf.rd hA1))) (Rd.appL (Buf.rd hA2)))))
             | ((apply CallSt.new (GSpec.locNew (H := kH q1 b1 k1) (by repeat (first | exact l1 | with_reducible apply Loc.skip)) (f59k q1 b1 k1 hw1 hk1 _)); rintro _ _ ⟨A3, B3, rfl, rfl, hA3, hB3⟩))
             | ((apply CallSt.new (GSpec.locNew (H := kH q2 b2 k2) (by repeat (first | exact l2 | with_reducible apply Loc.skip)) (f59k q2 b2 k2 hw2 hk2 _)); rintro _ _ ⟨A4, B4, rfl, rfl, hA4, hB4⟩))
             | (((with_reducible refine CallSt.rd (f := 112) (X := .bool true) ?_ ?_); (· exact e112 A3 B3 A4 B4 _ ⟨Rd.appR (Rd.appL (Rd.appL (Buf.rd hA3))), Rd.appR (Rd.appL (Rd.appR (Buf.rd hB3))), by simp only [List.length_map]; omega, by simp only [List.length_map]; omega⟩ ⟨Rd.appL (Rd.appL (Buf.rd hA4)), Rd.appL (Rd.appR (Buf.rd hB4)), by simp only [List.length_map]; omega, by simp only [List.length_map]; omega⟩)))
             | (((with_reducible apply CallSt.rd (f := 113)); (· (apply GSpec.locRet (H := kH q1 b1 k1)); (· repeat (first | exact l1 | with_reducible apply Loc.skip)); (· exact f113k q1 b1 k1 hk1 _))))
             | (((with_reducible apply CallSt.rd (f := 113)); (· (apply GSpec.locRet (H := kH q2 b2 k2)); (· repeat (first | exact l2 | with_reducible apply Loc.skip)); (· exact f113k q2 b2 k2 hk2 _))))
             | (with_reducible refine NextSt.mk ?_)
             | (with_reducible refine OnBB.tt ?_)
             | ((with_reducible apply Cmp.yes); · first | omega | (with_reducible assumption) | (with_reducible rfl)))
    exact FinSt.ret (((List.sublist_append_right _ _).trans (List.sublist_append_right _ _)).trans ((List.sublist_append_right _ _).trans (List.sublist_append_right _ _))) rfl
  · rw [decide_eq_false hL]
    by_cases hF : k1.logs.flatten = k2.logs.flatten
    · have edt : decide (k1.logs.map (fun q => (q.length : Int)) = k2.logs.map (fun q => (q.length : Int)) ∧ k1.logs.map sumL = k2.logs.map sumL) = false := decide_eq_false fun hx => hL (flat_inj hF hx.1)
      simp only [edt] at e112
      simp only [tyV, List.length_map] at e112
      refine GSpec.enter (fn := Try.f56) Try.func56 rfl (by kernel_rfl) ?_
      repeat' (conv => whnf
               first
               | ((apply CallSt.new (GSpec.locNew (H := kH q1 b1 k1) (by repeat (first | exact l1 | with_reducible apply Loc.skip)) (f57k q1 b1 k1 hw1 hk1 _)); rintro _ _ ⟨A1, rfl, rfl, hA1⟩))
               | ((apply CallSt.new (GSpec.locNew (H := kH q2 b2 k2) (by repeat (first | exact l2 | with_reducible apply Loc.skip)) (f57k q2 b2 k2 hw2 hk2 _)); rintro _ _ ⟨A2, rfl, rfl, hA2⟩))
               | (((with_reducible refine CallSt.rd (f := 60) (X := .bool true) ?_ ?_); (· rw [← decide_eq_true hF]; exact f60 _ _ _ _ _ _ (by omega) (by omega) w1.1 w2.1 _ _ (Rd.appR (Rd.appL (Buf.rd hA1))) (Rd.appL (Buf.rd hA2)))))
               | ((apply CallSt.new (GSpec.locNew (H := kH q1 b1 k1) (by repeat (first | exact l1 | with_reducible apply Loc.skip)) (f59k q1 b1 k1 hw1 hk1 _)); rintro _ _ ⟨A3, B3, rfl, rfl, hA3, hB3⟩))
               | ((apply CallSt.new (GSpec.locNew (H := kH q2 b2 k2) (by repeat (first | exact l2 | with_reducible apply Loc.skip)) (f59k q2 b2 k2 hw2 hk2 _)); rintro _ _ ⟨A4, B4, rfl, rfl, hA4, hB4⟩))
               | (((with_reducible refine CallSt.rd (f := 112) (X := .bool false) ?_ ?_); (· exact e112 A3 B3 A4 B4 _ ⟨Rd.appR (Rd.appL (Rd.appL (Buf.rd hA3))), Rd.appR (Rd.appL (Rd.appR (Buf.rd hB3))), by simp only [List.length_map]; omega, by simp only [List.length_map]; omega⟩ ⟨Rd.appL (Rd.appL (Buf.rd hA4)), Rd.appL (Rd.appR (Buf.rd hB4)), by simp only [List.length_map]; omega, by simp only [List.length_map]; omega⟩)))
               | (with_reducible refine NextSt.mk ?_)
               | (with_reducible refine OnBB.tt ?_)
               | (with_reducible refine OnBB.ff ?_))
      exact FinSt.ret (((List.sublist_append_right _ _).trans (List.sublist_append_right _ _)).trans ((List.sublist_append_right _ _).trans (List.sublist_append_right _ _))) rfl
    · refine GSpec.enter (fn := Try.f56) Try.func56 rfl (by kernel_rfl) ?_
      repeat' (conv => whnf
               first
               | ((apply CallSt.new (GSpec.locNew (H := kH q1 b1 k1) (by repeat (first | exact l1 | with_reducible apply Loc.skip)) (f57k q1 b1 k1 hw1 hk1 _)); rintro _ _ ⟨A1, rfl, rfl, hA1⟩))
               | ((apply CallSt.new (GSpec.locNew (H := kH q2 b2 k2) (by repeat (first | exact l2 | with_reducible apply Loc.skip)) (f57k q2 b2 k2 hw2 hk2 _)); rintro _ _ ⟨A2, rfl, rfl, hA2⟩))
               | (((with_reducible refine CallSt.rd (f := 60) (X := .bool false) ?_ ?_); (· rw [← decide_eq_false hF]; exact f60 _ _ _ _ _ _ (by omega) (by omega) w1.1 w2.1 _ _ (Rd.appR (Rd.appL (Buf.rd hA1))) (Rd.appL (Buf.rd hA2)))))
               | (with_reducible refine NextSt.mk ?_)
               | (with_reducible refine OnBB.ff ?_))
      exact FinSt.ret ((List.sublist_append_right _ _).trans (List.sublist_append_right _ _)) rfl
end Go.Proofs.Ytlbmlimaobkhpaa
