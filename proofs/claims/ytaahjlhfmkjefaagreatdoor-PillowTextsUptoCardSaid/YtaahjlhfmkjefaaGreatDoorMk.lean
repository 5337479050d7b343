/- The reference: numerals, Print, Parse. -/
import Derived.Test.YtaahjlhfmkjefaaGreatDoorMj
set_option linter.unusedVariables false
set_option linter.unusedSimpArgs false
set_option linter.unusedSectionVars false
/- The reference's numerals: number, Print. -/
namespace Go.Proofs.YtaahjlhfmkjefaaGreatDoor
open Go Go.Gv
set_option maxRecDepth 100000
set_option maxHeartbeats 8000000
set_option linter.unusedSimpArgs false
set_option linter.unusedVariables false
def digs : List UInt8 := [48, 49, 50, 51, 52, 53, 54, 55, 56, 57]
theorem digs_at : ∀ d < 10, (digs.take (d + 1)).drop d = [UInt8.ofNat (48 + d)] := by decide
theorem StrSl.lohiN {l : List UInt8} {n m : Nat} {K : Value → Prop} (h1 : n ≤ m) (h : m ≤ l.length) (hk : K (sV ((l.take m).drop n))) : StrSl l (some (iN n)) (some (.int .i64 ((m : Nat) : Int))) K := .lohi rfl rfl h1 h hk
theorem y24 : ∀ (n : Nat), n ≤ 1048576 → ∀ (h : View) (O : Hp), GSpec Tryz.prog 24 [iN n] h O (Ret O (sV (Lib.decDigits n))) := by
  intro n
  induction n using Nat.strongRecOn with
  | _ n ih =>
    intro hn h O
    rw [Lib.decDigits]
    by_cases h10 : n < 10
    · rw [dif_pos h10, ← digs_at n h10]
      refine GSpec.enter (fn := Tryz.f24) Tryz.func24 rfl (by kernel_rfl) ?_
      repeat' (conv => whnf
               first
               | (((with_reducible apply StrSl.lohiN); (· omega); (· show _ ≤ 10; omega)))
               | (with_reducible refine NextSt.mk ?_)
               | (with_reducible refine OnBB.tt ?_)
               | ((with_reducible apply NW.addN); (· first | with_reducible rfl | exact natL _); (· first | with_reducible rfl | exact natL _); (· omega))
               | ((with_reducible apply Cmp.yes); · first | omega | (with_reducible assumption) | (with_reducible rfl)))
      conv => whnf
      refine FinSt.ret (by (try dsimp only); (try simp only [List.cons_append, List.nil_append]); (repeat (first | with_reducible exact List.Sublist.refl _ | with_reducible exact List.nil_sublist _ | with_reducible apply List.Sublist.cons_cons | with_reducible apply sub_app | apply List.Sublist.cons_cons | apply sub_app | with_reducible apply List.Sublist.cons | with_reducible apply sub_skip))) ?_
      rfl
    · rw [dif_neg h10, ← digs_at (n % 10) (by omega)]
      have hdl := dec_len 9 (n / 10) (by have : (10 : Nat) ^ (9 + 1) = 10000000000 := by decide
                                         omega)
      have e24 := fun O => ih (n / 10) (by omega) (by omega) h O
      refine GSpec.enter (fn := Tryz.f24) Tryz.func24 rfl (by kernel_rfl) ?_
      repeat' (conv => whnf
               first
               | (((with_reducible refine CallG.rd (f := 24) (X := sV (Lib.decDigits (n / 10))) ?_ ?_); (· exact e24 _)))
               | (((with_reducible apply StrAdd.mk); · (rw [List.length_drop, List.length_take]; have h3 : ([48, 49, 50, 51, 52, 53, 54, 55, 56, 57] : List UInt8).length = 10 := rfl; omega)))
               | ((with_reducible refine DrawSt.walk [0, 1, 3, 4, 5, 6, 7, 8, 2, 9, 10] mixed ?_ ?_); · decide +kernel)
               | (with_reducible refine NextSt.mk ?_)
               | (with_reducible refine OnBB.ff ?_)
               | ((with_reducible apply NW.addN); (· first | with_reducible rfl | exact natL _); (· first | with_reducible rfl | exact natL _); (· omega))
               | ((with_reducible apply Cmp.no); · first | omega | (with_reducible assumption))
               | ((with_reducible apply DivSt.quoN); (· first | with_reducible rfl | exact natL _); (· first | with_reducible rfl | exact natL _); (· omega))
               | ((with_reducible apply DivSt.remN); (· first | with_reducible rfl | exact natL _); (· first | with_reducible rfl | exact natL _); (· omega))
               | ((with_reducible apply StrSl.lohi); (· first | with_reducible rfl | exact natL _); (· first | with_reducible rfl | exact natL _); (· (first | omega | (simp only [List.length_map, List.length_append, List.length_cons, List.length_nil, List.length_take, List.length_drop, List.length_replicate, List.length_set] at *; omega))); (· (first | omega | (simp only [List.length_map, List.length_append, List.length_cons, List.length_nil, List.length_take, List.length_drop, List.length_replicate, List.length_set] at *; omega)))))
      conv => whnf
      refine FinSt.ret (by (try dsimp only); (try simp only [List.cons_append, List.nil_append]); (repeat (first | with_reducible exact List.Sublist.refl _ | with_reducible exact List.nil_sublist _ | with_reducible apply List.Sublist.cons_cons | with_reducible apply sub_app | apply List.Sublist.cons_cons | apply sub_app | with_reducible apply List.Sublist.cons | with_reducible apply sub_skip))) ?_
      rfl
theorem y24i (y : Int) (h0 : 0 ≤ y ∧ y ≤ 1048576) (h : View) (O : Hp) : GSpec Tryz.prog 24 [.int .i64 y] h O (Ret O (sV (Lib.itoa y))) := by
  obtain ⟨n, rfl⟩ := Int.eq_ofNat_of_zero_le h0.1
  rw [itoa_nonneg h0.1]
  exact y24 n (by omega) h O
theorem y6 (p : Pl) (a : Option Addr) (c : Nat) (hl : p.log.length ≤ 9223372036854775807) (h : View) (O : Hp) (hr : Rd h O a (p.log.flatMap shV)) : GSpec Tryz.prog 6 [.agg ⟨plV p a c⟩] h O (Ret O (prT p)) := by
  have e23 := fun O hr => f46 p a c hl h O hr
  show GSpec Tryz.prog 6 [.agg ⟨[.int .i64 p.no, .int .i64 p.cell, .int .i64 p.noise, .int .i64 p.slab, .int .i64 p.jump, .int .i64 p.faults, .slice a p.log.length c]⟩] h O _
  by_cases hp : pOk p
  · have hc : chkP p = 0 := if_pos hp
    have hT : prT p = .tuple ⟨[sV (prV p), .int .i64 0]⟩ := by unfold prT; rw [hc]; rfl
    rw [hT]
    rw [hc] at e23
    have hpl := hp.1.2.2.2.2.2.2
    have hh : ∀ i < 6, 0 ≤ (headN p).getD i 0 ∧ (headN p).getD i 0 ≤ 1048576 := fun i hi => by
      have hm : (headN p).getD i 0 ∈ headN p := by
        rw [List.getD_eq_getElem?_getD, List.getElem?_eq_getElem (show i < (headN p).length from hi)]
        exact List.getElem_mem _
      exact head_bnd hp _ hm
    have hlog := log_bnd hp
    have hpr := pr_len hp
    have hle : ∀ i, (word ++ ((headN p).take i).flatMap txN).length ≤ 1000 := fun i => by
      have h1 := flatMap_len' (f := txN) (n := 11) (l := (headN p).take i) fun x hx => by
        have := itoa_len (head_bnd hp x (List.mem_of_mem_take hx))
        unfold txN
        simp only [List.length_append, List.length_cons, List.length_nil]
        omega
      rw [List.length_take] at h1
      have h2 : word.length = 6 := rfl
      have h3 : (headN p).length = 6 := rfl
      rw [List.length_append]
      omega
    have hle2 : ∀ j, (word ++ (headN p).flatMap txN ++ (p.log.take j).flatMap txS).length ≤ 2000 := fun j => by
      have h0 := hle 6
      rw [show (headN p).take 6 = headN p from rfl] at h0
      have h1 := flatMap_len' (f := txS) (n := 22) (l := p.log.take j) fun x hx => by
        have hb := hlog x (List.mem_of_mem_take hx)
        have e1 := itoa_len hb.1
        have e2 := itoa_len hb.2
        unfold txS
        simp only [List.length_append, List.length_cons, List.length_nil]
        omega
      rw [List.length_take] at h1
      rw [List.length_append]
      omega
    refine GSpec.enter (fn := Tryz.f6) Tryz.func6 rfl (by kernel_rfl) ?_
    repeat' (conv => whnf
             first
             | (((with_reducible refine CallSt.rd (f := 23) (X := .int .i64 0) ?_ ?_); (· exact e23 _ (Rd.cons hr))))
             | (with_reducible refine NextSt.mk ?_)
             | (with_reducible refine OnBB.ff ?_)
             | ((with_reducible apply Cmp.no); · first | omega | (with_reducible assumption))
             | ((with_reducible apply LoadSt.box); · (repeat (first | exact List.Mem.head _ | with_reducible apply List.mem_append_right | with_reducible apply List.mem_cons_of_mem)))
             | ((with_reducible apply LoadSt.boxAgg); · (repeat (first | exact List.Mem.head _ | with_reducible apply List.mem_append_right | with_reducible apply List.mem_cons_of_mem)))
             | ((with_reducible refine AllocSt.mk ?_); intro _b _hb _hbO))
    rename_i b1 _ _
    obtain ⟨bn, hbn⟩ : ∃ x, x = _b := ⟨_, rfl⟩
    subst hbn
    refine LoopSt.fix [4, 6, 24, 25, 26, 27, 28, 29, 30, 31, 32, 33, 34, 35, 36, 37] (fun (i : Nat) => [(4, sV (word ++ ((headN p).take i).flatMap txN)), (6, iN i)]) (fun _ => _) (fun i => i ≤ 6) (fun i => 6 - i) (0) _ (Wk.refl _ _) (rfl) ?_ ?_ ?_
    · repeat' (first | exact True.intro | refine And.intro ?_ ?_ | rfl | exact congrArg (Value.int _) (by omega) | exact congrArg (fun n => Value.slice _ n _) (by (try dsimp only); omega))
    · exact Nat.zero_le _
    · intro i d hi
      by_cases hi6 : i < 6
      · have hn := hh i hi6
        have hst : word ++ ((headN p).take (i + 1)).flatMap txN = (word ++ ((headN p).take i).flatMap txN) ++ [32] ++ Lib.itoa ((headN p).getD i 0) := by
          rw [List.take_add_one, List.getElem?_eq_getElem (show i < (headN p).length from hi6), List.flatMap_append, List.getD_eq_getElem?_getD, List.getElem?_eq_getElem (show i < (headN p).length from hi6)]
          simp [txN]
        have hlen := hle i
        have hil := itoa_len hn
        generalize hM : word ++ ((headN p).take i).flatMap txN = M at *
        generalize hy : (headN p).getD i 0 = y at *
        repeat' (conv => whnf
                 first
                 | ((refine LoadSt.rdZ (a := some ⟨bn, 0, none⟩) (xs := headN p) (k := i) (Rd.own0 (List.Mem.head _)) hi6 ?_); rw [hy])
                 | (((with_reducible refine CallSt.rd (f := 24) (X := sV (Lib.itoa y)) ?_ ?_); (· exact y24i y hn h _)))
                 | (with_reducible refine NextSt.mk ?_)
                 | (with_reducible refine OnBB.tt ?_)
                 | ((with_reducible apply NW.addN); (· first | with_reducible rfl | exact natL _); (· first | with_reducible rfl | exact natL _); (· omega))
                 | ((with_reducible apply Cmp.yes); · first | omega | (with_reducible assumption) | (with_reducible rfl))
                 | ((with_reducible apply StrAdd.mk); · (first | omega | (simp only [List.length_map, List.length_append, List.length_cons, List.length_nil, List.length_take, List.length_drop, List.length_replicate, List.length_set] at *; omega)))
                 | ((with_reducible apply IdxSl.own1); (· rfl); (· first | with_reducible rfl | exact natL _); · (first | omega | (simp only [List.length_map, List.length_append, List.length_cons, List.length_nil, List.length_take, List.length_drop, List.length_replicate, List.length_set] at *; omega))))
        refine RoundFix.mk (i + 1) ?_ ?_ _ rfl (Wk.drop (by (try dsimp only); (try simp only [List.cons_append, List.nil_append]); (repeat (first | with_reducible exact List.Sublist.refl _ | with_reducible exact List.nil_sublist _ | with_reducible apply List.Sublist.cons_cons | with_reducible apply sub_app | apply List.Sublist.cons_cons | apply sub_app | with_reducible apply List.Sublist.cons | with_reducible apply sub_skip)))) ?_
        · omega
        · repeat' (first | exact True.intro | refine And.intro ?_ ?_ | exact congrArg sV hst.symm | rfl | exact congrArg (Value.int _) (by omega) | exact congrArg (fun n => Value.slice _ n _) (by (try dsimp only); omega))
        · exact hi6
      · have : i = 6 := by omega
        subst this
        rw [show (headN p).take 6 = headN p from rfl]
        obtain ⟨Hd, hHd⟩ : ∃ Hd, word ++ (headN p).flatMap txN = Hd := ⟨_, rfl⟩
        have hprv : prV p = Hd ++ p.log.flatMap txS := by rw [← hHd]; rfl
        rw [hprv]
        simp only [hHd] at hle2 ⊢
        repeat' (conv => whnf
                 first
                 | (with_reducible refine NextSt.mk ?_)
                 | (with_reducible refine OnBB.ff ?_)
                 | ((with_reducible apply Cmp.no); · first | omega | (with_reducible assumption)))
        refine LoopSt.fix [4, 7, 38, 39, 40, 41, 42, 43, 44, 45, 46, 47, 48, 49, 50, 51, 52, 53, 54, 55, 56, 57, 58, 59, 60, 61, 62, 63] (fun (i : Nat) => [(4, sV (Hd ++ (p.log.take i).flatMap txS)), (7, iN i)]) (fun _ => _) (fun i => i ≤ p.log.length) (fun i => p.log.length - i) (0) _ (Wk.refl _ _) (rfl) ?_ ?_ ?_
        · repeat' (first | exact True.intro | refine And.intro ?_ ?_ | exact congrArg sV (List.append_nil _).symm | rfl | exact congrArg (Value.int _) (by omega) | exact congrArg (fun n => Value.slice _ n _) (by (try dsimp only); omega))
        · exact Nat.zero_le _
        · intro j d2 hj
          by_cases hjl : j < p.log.length
          · have hm : p.log.getD j default ∈ p.log := by
              rw [List.getD_eq_getElem?_getD, List.getElem?_eq_getElem hjl]
              exact List.getElem_mem _
            have hn := hlog _ hm
            have hst : Hd ++ (p.log.take (j + 1)).flatMap txS = (Hd ++ (p.log.take j).flatMap txS) ++ [32] ++ Lib.itoa (p.log.getD j default).day ++ [61] ++ Lib.itoa (p.log.getD j default).wt := by
              rw [List.take_add_one, List.getElem?_eq_getElem hjl, List.flatMap_append, List.getD_eq_getElem?_getD, List.getElem?_eq_getElem hjl]
              simp [txS]
            have hlen := hle2 j
            have hl1 := itoa_len hn.1
            have hl2 := itoa_len hn.2
            generalize hM : Hd ++ (p.log.take j).flatMap txS = M at *
            repeat' (conv => whnf
                     first
                     | (((with_reducible refine CallG.rd (f := 24) (X := sV (Lib.itoa (p.log.getD j default).day)) ?_ ?_); (· (apply GSpec.cast (sp := y24i (p.log.getD j default).day hn.1 h _); (· (repeat' (first | with_reducible rfl | refine congrArg₂ List.cons ?_ ?_ | exact iN_lit _ | rfl)))))))
                     | (((with_reducible refine CallG.rd (f := 24) (X := sV (Lib.itoa (p.log.getD j default).wt)) ?_ ?_); (· (apply GSpec.cast (sp := y24i (p.log.getD j default).wt hn.2 h _); (· (repeat' (first | with_reducible rfl | refine congrArg₂ List.cons ?_ ?_ | exact iN_lit _ | rfl)))))))
                     | ((with_reducible refine DrawSt.walk [0, 1, 2, 3, 4, 5, 6, 7, 11, 12, 13, 14, 15, 16, 8, 9, 10, 17, 18, 19] mixed ?_ ?_); · decide +kernel)
                     | ((with_reducible apply LoadSt.rdf (g := shV) (s := 2)); (· (repeat (first | with_reducible assumption | (with_reducible apply Rd.any; with_reducible assumption) | (with_reducible apply Buf.rd; with_reducible assumption) | (with_reducible apply Rd.appL; with_reducible assumption) | (with_reducible apply Rd.appL; with_reducible apply Buf.rd; with_reducible assumption) | (with_reducible apply Rd.ofH; with_reducible assumption) | (with_reducible apply Rd.ofH1; with_reducible assumption) | with_reducible apply Rd.cons | with_reducible apply Rd.appR))); (· exact fun _ => rfl); (· (first | omega | (simp only [List.length_map, List.length_append, List.length_cons, List.length_nil, List.length_take, List.length_drop, List.length_replicate, List.length_set] at *; omega))); (· decide))
                     | ((with_reducible apply IdxSl.rdg (g := shV) (s := 2)); (· with_reducible assumption); (· exact fun _ => rfl); (· decide); (· rfl); (· first | with_reducible rfl | exact natL _); (· (first | omega | (simp only [List.length_map, List.length_append, List.length_cons, List.length_nil, List.length_take, List.length_drop, List.length_replicate, List.length_set] at *; omega))); · (first | omega | (simp only [List.length_map, List.length_append, List.length_cons, List.length_nil, List.length_take, List.length_drop, List.length_replicate, List.length_set] at *; omega)))
                     | (with_reducible refine NextSt.mk ?_)
                     | (with_reducible refine OnBB.tt ?_)
                     | ((with_reducible apply NW.addN); (· first | with_reducible rfl | exact natL _); (· first | with_reducible rfl | exact natL _); (· omega))
                     | ((with_reducible apply Cmp.yes); · first | omega | (with_reducible assumption) | (with_reducible rfl))
                     | ((with_reducible apply LoadSt.box); · (repeat (first | exact List.Mem.head _ | with_reducible apply List.mem_append_right | with_reducible apply List.mem_cons_of_mem)))
                     | ((with_reducible apply StrAdd.mk); · (first | omega | (simp only [List.length_map, List.length_append, List.length_cons, List.length_nil, List.length_take, List.length_drop, List.length_replicate, List.length_set] at *; omega))))
            refine RoundFix.mk (j + 1) ?_ ?_ _ rfl (Wk.drop (by (try dsimp only); (try simp only [List.cons_append, List.nil_append]); (repeat (first | with_reducible exact List.Sublist.refl _ | with_reducible exact List.nil_sublist _ | with_reducible apply List.Sublist.cons_cons | with_reducible apply sub_app | apply List.Sublist.cons_cons | apply sub_app | with_reducible apply List.Sublist.cons | with_reducible apply sub_skip)))) ?_
            · omega
            · repeat' (first | exact True.intro | refine And.intro ?_ ?_ | exact congrArg sV hst.symm | rfl | exact congrArg (Value.int _) (by omega) | exact congrArg (fun n => Value.slice _ n _) (by (try dsimp only); omega))
            · exact hjl
          · have : j = p.log.length := by omega
            subst this
            rw [List.take_length]
            repeat' (conv => whnf
                     first
                     | (with_reducible refine NextSt.mk ?_)
                     | (with_reducible refine OnBB.ff ?_)
                     | ((with_reducible apply Cmp.no); · first | omega | (with_reducible assumption))
                     | ((with_reducible apply LoadSt.box); · (repeat (first | exact List.Mem.head _ | with_reducible apply List.mem_append_right | with_reducible apply List.mem_cons_of_mem))))
            conv => whnf
            refine FinSt.ret (by (try dsimp only); (try simp only [List.cons_append, List.nil_append]); (repeat (first | with_reducible exact List.Sublist.refl _ | with_reducible exact List.nil_sublist _ | with_reducible apply List.Sublist.cons_cons | with_reducible apply sub_app | apply List.Sublist.cons_cons | apply sub_app | with_reducible apply List.Sublist.cons | with_reducible apply sub_skip))) ?_
            rfl
  · have hc : chkP p = 30 := if_neg hp
    have hT : prT p = .tuple ⟨[sV [], .int .i64 30]⟩ := by unfold prT; rw [hc]; rfl
    rw [hT]
    rw [hc] at e23
    refine GSpec.enter (fn := Tryz.f6) Tryz.func6 rfl (by kernel_rfl) ?_
    repeat' (conv => whnf
             first
             | (((with_reducible refine CallSt.rd (f := 23) (X := .int .i64 30) ?_ ?_); (· exact e23 _ (Rd.cons hr))))
             | (with_reducible refine NextSt.mk ?_)
             | (with_reducible refine OnBB.tt ?_)
             | ((with_reducible apply Cmp.yes); · first | omega | (with_reducible assumption) | (with_reducible rfl))
             | ((with_reducible apply LoadSt.boxAgg); · (repeat (first | exact List.Mem.head _ | with_reducible apply List.mem_append_right | with_reducible apply List.mem_cons_of_mem)))
             | ((with_reducible refine AllocSt.mk ?_); intro _b _hb _hbO))
    conv => whnf
    refine FinSt.ret (by (try dsimp only); (try simp only [List.cons_append, List.nil_append]); (repeat (first | with_reducible exact List.Sublist.refl _ | with_reducible exact List.nil_sublist _ | with_reducible apply List.Sublist.cons_cons | with_reducible apply sub_app | apply List.Sublist.cons_cons | apply sub_app | with_reducible apply List.Sublist.cons | with_reducible apply sub_skip))) ?_
    rfl
end Go.Proofs.YtaahjlhfmkjefaaGreatDoor
/- The reference's numerals and Parse. -/
namespace Go.Proofs.YtaahjlhfmkjefaaGreatDoor
open Go Go.Gv
set_option maxRecDepth 100000
set_option maxHeartbeats 8000000
set_option linter.unusedSimpArgs false
set_option linter.unusedVariables false
/-- The numbers of the first i bytes. -/
def nuT (s : List UInt8) (i : Nat) : List Int × Bool := (s.take i).foldl numS ([], false)
theorem nuT_succ {s : List UInt8} {i : Nat} (h : i < s.length) : nuT s (i + 1) = numS (nuT s i) (s.getD i 0) := by
  unfold nuT
  rw [List.take_add_one, List.getElem?_eq_getElem h, List.foldl_append, List.getD_eq_getElem?_getD, List.getElem?_eq_getElem h]
  rfl
theorem nuT_all (s : List UInt8) : (nuT s s.length).1 = numV s := by
  unfold nuT numV
  rw [List.take_length]
/-- All numbers are small; within digits there is one. -/
theorem nuT_in (s : List UInt8) : ∀ i, (∀ x ∈ (nuT s i).1, 0 ≤ x ∧ x ≤ 1073741824) ∧ ((nuT s i).2 = true → (nuT s i).1 ≠ []) ∧ (nuT s i).1.length ≤ i := by
  intro i
  induction i with
  | zero => exact ⟨by simp [nuT], by simp [nuT], by simp [nuT]⟩
  | succ i ih =>
    by_cases h : i < s.length
    · rw [nuT_succ h]
      obtain ⟨h1, h2, h3⟩ := ih
      generalize nuT s i = z at *
      obtain ⟨l, b⟩ := z
      simp only at h1 h2 h3
      unfold numS
      split
      · exact ⟨h1, fun e => (by cases e), (by simp only; omega)⟩
      · rename_i hd
        have hl : ∀ x ∈ (if b then l else l ++ [0]), 0 ≤ x ∧ x ≤ 1073741824 := by
          split
          · exact h1
          · intro x hx
            rcases List.mem_append.1 hx with hx | hx
            · exact h1 x hx
            · rw [List.mem_singleton.1 hx]; omega
        have hlen : (if b then l else l ++ [0]).length ≤ i + 1 := by
          split
          · omega
          · simp; omega
        have hne : (if b then l else l ++ [0]) ≠ [] := by
          split
          · rename_i e; exact h2 e
          · simp
        generalize (if b then l else l ++ [0]) = m at *
        refine ⟨fun x hx => ?_, fun _ => by simp, ?_⟩
        · rcases List.mem_append.1 hx with hx | hx
          · exact hl x (List.dropLast_subset _ hx)
          · rw [List.mem_singleton.1 hx]
            have hq : m.getLastD 0 ∈ m := by
              rw [List.getLastD_eq_getLast?, List.getLast?_eq_some_getLast hne]
              exact List.getLast_mem hne
            have := hl _ hq
            omega
        · have : 0 < m.length := List.length_pos_iff.2 hne
          rw [List.length_append, List.length_dropLast]
          simp only [List.length_cons, List.length_nil]
          omega
    · unfold nuT at *
      rw [List.take_of_length_le (by omega)]
      rw [List.take_of_length_le (by omega)] at ih
      exact ⟨ih.1, ih.2.1, by omega⟩
theorem set_last {m : List Int} (h : m ≠ []) (x : Int) : m.set (m.length - 1) x = m.dropLast ++ [x] := by
  obtain ⟨l, y, rfl⟩ : ∃ l y, m = l ++ [y] := ⟨m.dropLast, m.getLast h, (List.dropLast_concat_getLast h).symm⟩
  simp
theorem last_get {m : List Int} (h : m ≠ []) : m.getLastD 0 = m.getD (m.length - 1) 0 := by
  obtain ⟨l, y, rfl⟩ : ∃ l y, m = l ++ [y] := ⟨m.dropLast, m.getLast h, (List.dropLast_concat_getLast h).symm⟩
  simp
theorem ok_of_len {b : Buf} {sz n : Nat} {l m : List Value} (h : b.ok sz l n) (e : m.length = l.length) : b.ok sz m n := ⟨e.trans h.1, h.2⟩
theorem ok_le_cap {b : Buf} {sz n : Nat} {l : List Value} (h : b.ok sz l n) : n ≤ b.cap := by
  rcases h.2 with ⟨_, _, e⟩ | ⟨_, e, _⟩ <;> omega
theorem y28 (s : List UInt8) (hs : s.length ≤ 1000) (h : View) (O : Hp) : GSpec Tryz.prog 28 [sV s] h O (New O (LsR (fun x : Int => [zI x]) (numV s))) := by
  refine GSpec.enter (fn := Tryz.f28) Tryz.func28 rfl (by kernel_rfl) ?_
  repeat' (conv => whnf
           first
           | (with_reducible refine NextSt.mk ?_))
  refine LoopSt.fix [3, 4, 5, 6, 7, 8, 9, 10, 11, 12, 13, 14, 15, 16, 17, 18, 19, 20, 21, 22, 23, 24, 25, 26, 27, 28, 29, 30, 31, 32, 33, 34, 35, 36, 37, 38, 39, 40, 41, 42, 43, 44, 45] (fun ((i, B) : Nat × Buf) => [(3, .slice B.a (nuT s i).1.length B.cap), (4, .bool (nuT s i).2), (5, iN i)]) (fun (i, B) => B.hp 3 ((nuT s i).1.map zI) ++ O) (fun (i, B) => i ≤ s.length ∧ B.ok 1 ((nuT s i).1.map zI) (nuT s i).1.length) (fun (i, B) => s.length - i) ((0, Buf.nil)) _ (Wk.refl _ _) (rfl) ?_ ?_ ?_
  · repeat' (first | exact True.intro | refine And.intro ?_ ?_ | rfl | exact congrArg (Value.int _) (by omega) | exact congrArg (fun n => Value.slice _ n _) (by (try dsimp only); omega))
  · exact ⟨Nat.zero_le _, Buf.nil_ok 1⟩
  · rintro ⟨i, B⟩ d ⟨hi, hB⟩
    dsimp only at hi hB ⊢
    by_cases hil : i < s.length
    · have hst := nuT_succ hil
      obtain ⟨h1, h2, h3⟩ := nuT_in s i
      obtain ⟨⟨l, b⟩, hz⟩ : ∃ z, nuT s i = z := ⟨_, rfl⟩
      rw [hz] at hst h1 h2 h3 hB ⊢
      simp only at h1 h2 h3 hB ⊢
      have hcb : (s.getD i 0).toNat = (nb s).getD i 0 := by
        unfold nb
        rw [List.getD_eq_getElem?_getD, List.getD_eq_getElem?_getD, List.getElem?_map, List.getElem?_eq_getElem hil]
        rfl
      unfold numS at hst
      rw [hcb] at hst
      have hc256 : (nb s).getD i 0 < 256 := by rw [← hcb]; exact UInt8.toNat_lt _
      by_cases hd : (nb s).getD i 0 < 48 ∨ 57 < (nb s).getD i 0
      · have hn : nuT s (i + 1) = (l, false) := by rw [hst]; exact if_pos hd
        repeat' (conv => whnf
                 first
                 | (with_reducible refine NextSt.mk ?_)
                 | (with_reducible refine OnBB.tt ?_)
                 | (with_reducible refine OnBB.ff ?_)
                 | ((with_reducible apply NW.addN); (· first | with_reducible rfl | exact natL _); (· first | with_reducible rfl | exact natL _); (· omega))
                 | ((with_reducible apply Cmp.yes); · first | omega | (with_reducible assumption) | (with_reducible rfl))
                 | ((with_reducible apply StrIdx.m); (· first | with_reducible rfl | exact natL _); · omega)
                 | ((with_reducible refine Cmp.mk ?_ ?_) <;> intro _hc))
        all_goals
          refine RoundFix.mk (i + 1, B) ?_ ?_ _ rfl (by rw [hn]; exact Wk.refl _ _) ?_
          · dsimp only; omega
          · dsimp only
            rw [hn]
            repeat' (first | exact True.intro | refine And.intro ?_ ?_ | rfl | exact congrArg (Value.int _) (by omega) | exact congrArg (fun n => Value.slice _ n _) (by (try dsimp only); omega))
          · exact ⟨hil, by dsimp only; rw [hn]; exact hB⟩
      · rw [if_neg hd] at hst
        have hd2 : 48 ≤ (nb s).getD i 0 ∧ (nb s).getD i 0 ≤ 57 := by omega
        cases b with
        | true =>
          have hl0 : 1 ≤ l.length := List.length_pos_iff.2 (h2 rfl)
          have hlast : 0 ≤ l.getD (l.length - 1) 0 ∧ l.getD (l.length - 1) 0 ≤ 1073741824 := h1 _ (by
            rw [List.getD_eq_getElem?_getD, List.getElem?_eq_getElem (show l.length - 1 < l.length by omega)]
            exact List.getElem_mem _)
          have hne := h2 rfl
          have hN : nuT s (i + 1) = (l.set (l.length - 1) (min (l.getD (l.length - 1) 0 * 10 + (((nb s).getD i 0 : Nat) : Int) - 48) 1073741824), true) := by
            rw [hst]
            simp only [if_true]
            rw [set_last hne, last_get hne]
          repeat' (conv => whnf
                   first
                   | ((with_reducible refine DrawSt.walk [0, 1, 2, 3, 4, 5, 6, 7, 8, 9, 10, 11, 12, 13, 14, 15, 16, 17, 18, 19] mixed ?_ ?_); · decide +kernel)
                   | ((with_reducible apply LoadSt.rdZ); (· (repeat (first | with_reducible assumption | (with_reducible apply Rd.any; with_reducible assumption) | (with_reducible apply Buf.rd; with_reducible assumption) | (with_reducible apply Rd.appL; with_reducible assumption) | (with_reducible apply Rd.appL; with_reducible apply Buf.rd; with_reducible assumption) | (with_reducible apply Rd.ofH; with_reducible assumption) | (with_reducible apply Rd.ofH1; with_reducible assumption) | with_reducible apply Rd.cons | with_reducible apply Rd.appR))); · (first | omega | (simp only [List.length_map, List.length_append, List.length_cons, List.length_nil, List.length_take, List.length_drop, List.length_replicate, List.length_set] at *; omega)))
                   | (with_reducible refine NextSt.mk ?_)
                   | (with_reducible refine OnBB.tt ?_)
                   | (with_reducible refine OnBB.ff ?_)
                   | ((with_reducible apply NW.addN); (· first | with_reducible rfl | exact natL _); (· first | with_reducible rfl | exact natL _); (· omega))
                   | ((with_reducible apply NW.subN); (· first | with_reducible rfl | exact natL _); (· first | with_reducible rfl | exact natL _); (· omega))
                   | ((with_reducible apply NW.i64N); (· first | with_reducible rfl | exact natL _); (· omega))
                   | ((with_reducible apply NW.i64); · omega)
                   | ((with_reducible apply Cmp.yes); · first | omega | (with_reducible assumption) | (with_reducible rfl))
                   | ((with_reducible apply Cmp.no); · first | omega | (with_reducible assumption))
                   | ((with_reducible apply StoreSt.bufm); (· (repeat (first | with_reducible exact Loc.hd | with_reducible exact Loc.last | with_reducible exact Loc.one | with_reducible apply Loc.tl | with_reducible apply Loc.skip))); (· with_reducible assumption); (· (first | exact Nat.zero_add _ | with_reducible rfl | omega | (show _ + _ * 1 = _; omega))); (· rfl); (· (first | omega | (simp only [List.length_map, List.length_append, List.length_cons, List.length_nil, List.length_take, List.length_drop, List.length_replicate, List.length_set] at *; omega))); (· rfl))
                   | (with_reducible apply MinMax.minI)
                   | ((with_reducible apply StrIdx.m); (· first | with_reducible rfl | exact natL _); · omega)
                   | ((with_reducible apply IdxSl.buf1); (· with_reducible assumption); (· rfl); (· rfl); (· first | with_reducible rfl | exact natL _); · (first | omega | (simp only [List.length_map, List.length_append, List.length_cons, List.length_nil, List.length_take, List.length_drop, List.length_replicate, List.length_set] at *; omega))))
          refine RoundFix.mk (i + 1, B) ?_ ?_ _ rfl (by rw [hN]; exact Wk.refl _ _) ?_
          · dsimp only; omega
          · dsimp only
            rw [hN]
            simp only [List.length_set]
            repeat' (first | exact True.intro | refine And.intro ?_ ?_ | rfl | exact congrArg (Value.int _) (by omega) | exact congrArg (fun n => Value.slice _ n _) (by (try dsimp only); omega))
          · refine ⟨hil, ?_⟩
            dsimp only
            rw [hN]
            simp only [List.length_set]
            exact ok_of_len hB (by rw [List.length_map, List.length_map, List.length_set])
        | false =>
          have hm0 : (l ++ [0]).getD (l.length + 1 - 1) 0 = 0 := by simp
          have hne : l ++ [0] ≠ [] := by simp
          have hll : (l ++ [(0 : Int)]).length - 1 = l.length + 1 - 1 := by rw [List.length_append]; rfl
          have hN : nuT s (i + 1) = ((l ++ [0]).set (l.length + 1 - 1) (min ((l ++ [0]).getD (l.length + 1 - 1) 0 * 10 + (((nb s).getD i 0 : Nat) : Int) - 48) 1073741824), true) := by
            rw [hst]
            simp only [Bool.false_eq_true, if_false]
            rw [← hll, set_last hne, last_get hne]
          repeat' (conv => whnf
                   first
                   | (((apply AppSt.lit1 (g := zI) (x := 0) (xs := l) (z := .int .i64 0)); (· (repeat (first | with_reducible exact Loc.hd | with_reducible exact Loc.last | with_reducible exact Loc.one | with_reducible apply Loc.tl | with_reducible apply Loc.skip))); (· exact hB); (· (repeat (first | exact List.Mem.head _ | with_reducible apply List.mem_append_right | with_reducible apply List.mem_cons_of_mem))); (· rfl); (· rfl); (· rfl); (· rfl); (· rfl); (· rfl); (· (show _ * 8 ≤ _; omega)); (· omega); intro B1 hB1))
                   | ((with_reducible refine DrawSt.walk [0, 1, 2, 3, 4, 5, 6, 7, 8, 9, 10, 11, 12, 13, 14, 15, 16, 17, 18, 19] mixed ?_ ?_); · decide +kernel)
                   | ((with_reducible apply LoadSt.rdZ); (· (repeat (first | with_reducible assumption | (with_reducible apply Rd.any; with_reducible assumption) | (with_reducible apply Buf.rd; with_reducible assumption) | (with_reducible apply Rd.appL; with_reducible assumption) | (with_reducible apply Rd.appL; with_reducible apply Buf.rd; with_reducible assumption) | (with_reducible apply Rd.ofH; with_reducible assumption) | (with_reducible apply Rd.ofH1; with_reducible assumption) | with_reducible apply Rd.cons | with_reducible apply Rd.appR))); · (first | omega | (simp only [List.length_map, List.length_append, List.length_cons, List.length_nil, List.length_take, List.length_drop, List.length_replicate, List.length_set] at *; omega)))
                   | (with_reducible refine NextSt.mk ?_)
                   | (with_reducible refine OnBB.tt ?_)
                   | (with_reducible refine OnBB.ff ?_)
                   | ((with_reducible apply NW.addN); (· first | with_reducible rfl | exact natL _); (· first | with_reducible rfl | exact natL _); (· omega))
                   | ((with_reducible apply NW.subN); (· first | with_reducible rfl | exact natL _); (· first | with_reducible rfl | exact natL _); (· omega))
                   | ((with_reducible apply NW.i64N); (· first | with_reducible rfl | exact natL _); (· omega))
                   | ((with_reducible apply NW.i64); · omega)
                   | ((with_reducible apply Cmp.yes); · first | omega | (with_reducible assumption) | (with_reducible rfl))
                   | ((with_reducible apply Cmp.no); · first | omega | (with_reducible assumption))
                   | ((with_reducible refine AllocSt.mk ?_); intro _b _hb _hbO)
                   | ((with_reducible apply StoreSt.bufm); (· (repeat (first | with_reducible exact Loc.hd | with_reducible exact Loc.last | with_reducible exact Loc.one | with_reducible apply Loc.tl | with_reducible apply Loc.skip))); (· with_reducible assumption); (· (first | exact Nat.zero_add _ | with_reducible rfl | omega | (show _ + _ * 1 = _; omega))); (· rfl); (· (first | omega | (simp only [List.length_map, List.length_append, List.length_cons, List.length_nil, List.length_take, List.length_drop, List.length_replicate, List.length_set] at *; omega))); (· rfl))
                   | (with_reducible apply MinMax.minI)
                   | ((with_reducible apply StrIdx.m); (· first | with_reducible rfl | exact natL _); · omega)
                   | ((with_reducible apply IdxSl.buf1); (· with_reducible assumption); (· rfl); (· rfl); (· first | with_reducible rfl | exact natL _); · (first | omega | (simp only [List.length_map, List.length_append, List.length_cons, List.length_nil, List.length_take, List.length_drop, List.length_replicate, List.length_set] at *; omega))))
          refine RoundFix.mk (i + 1, B1) ?_ ?_ _ rfl (by rw [hN]; exact Wk.drop (by (try dsimp only); (try simp only [List.cons_append, List.nil_append]); (repeat (first | with_reducible exact List.Sublist.refl _ | with_reducible exact List.nil_sublist _ | with_reducible apply List.Sublist.cons_cons | with_reducible apply sub_app | apply List.Sublist.cons_cons | apply sub_app | with_reducible apply List.Sublist.cons | with_reducible apply sub_skip)))) ?_
          · dsimp only; omega
          · dsimp only
            rw [hN]
            simp only [List.length_set, List.length_append, List.length_cons, List.length_nil]
            repeat' (first | exact True.intro | refine And.intro ?_ ?_ | rfl | exact congrArg (Value.int _) (by omega) | exact congrArg (fun n => Value.slice _ n _) (by (try dsimp only); omega))
          · refine ⟨hil, ?_⟩
            dsimp only
            rw [hN]
            simp only [List.length_set, List.length_append, List.length_cons, List.length_nil]
            exact ok_of_len hB1 (by simp)
    · have : i = s.length := by omega
      subst this
      have hnv := nuT_all s
      rw [← hnv]
      repeat' (conv => whnf
               first
               | (with_reducible refine NextSt.mk ?_)
               | (with_reducible refine OnBB.ff ?_)
               | ((with_reducible apply Cmp.no); · first | omega | (with_reducible assumption)))
      conv => whnf
      refine FinSt.new (H := B.hp 3 ((nuT s s.length).1.map zI)) (by (try dsimp only); (try simp only [List.cons_append, List.nil_append]); (repeat (first | with_reducible exact List.Sublist.refl _ | with_reducible exact List.nil_sublist _ | with_reducible apply List.Sublist.cons_cons | with_reducible apply sub_app | apply List.Sublist.cons_cons | apply sub_app | with_reducible apply List.Sublist.cons | with_reducible apply sub_skip))) ?_
      exact ⟨_, _, rfl, by rw [flat_one]; exact Buf.rd hB, ok_le_cap hB⟩
end Go.Proofs.YtaahjlhfmkjefaaGreatDoor
/- The reference's Parse. -/
namespace Go.Proofs.YtaahjlhfmkjefaaGreatDoor
open Go Go.Gv
set_option maxRecDepth 100000
set_option maxHeartbeats 8000000
set_option linter.unusedSimpArgs false
set_option linter.unusedVariables false
def zeroP : Pl := ⟨0, 0, 0, 0, 0, 0, []⟩
def parP (s : List UInt8) : Pl := (parV s).getD zeroP
def parE (s : List UInt8) : Int := if (parV s).isSome then 0 else 3
/-- What Parse hands back. -/
def ParR (s : List UInt8) (v : Value) (H : Hp) : Prop := ∃ a c, v = .tuple ⟨[.agg ⟨plV (parP s) a c⟩, .int .i64 (parE s)]⟩ ∧ RdH H a ((parP s).log.flatMap shV)
theorem par_none {s : List UInt8} (h : parV s = none) (H : Hp) : ParR s (.tuple ⟨[.agg ⟨[.int .i64 0, .int .i64 0, .int .i64 0, .int .i64 0, .int .i64 0, .int .i64 0, .slice none 0 0]⟩, .int .i64 3]⟩) H := by
  have h1 : parP s = zeroP := by unfold parP; rw [h]; rfl
  have h2 : parE s = 3 := by unfold parE; rw [h]; rfl
  refine ⟨none, 0, by rw [h1, h2]; rfl, ?_⟩
  rw [h1]
  exact Rd.nil
theorem pairs_len : ∀ l : List Int, (pairs l).length = l.length / 2
  | [] => rfl
  | [_] => by simp [pairs]
  | a :: b :: l => by
    rw [pairs, List.length_cons, pairs_len l, List.length_cons, List.length_cons]; omega
theorem pairs_get : ∀ (l : List Int) (k : Nat), k < (pairs l).length → (pairs l).getD k default = ⟨l.getD (2 * k) 0, l.getD (2 * k + 1) 0⟩
  | [], k, h => by simp [pairs] at h
  | [_], k, h => by simp [pairs] at h
  | a :: b :: l, 0, h => rfl
  | a :: b :: l, k + 1, h => by
    rw [pairs] at h ⊢
    rw [List.getD_cons_succ, pairs_get l k (by simpa using h), show 2 * (k + 1) = 2 * k + 1 + 1 by omega, List.getD_cons_succ, List.getD_cons_succ, show 2 * k + 1 + 1 + 1 = (2 * k + 1) + 1 + 1 by omega, List.getD_cons_succ, List.getD_cons_succ]
theorem drop_get (l : List Int) (n k : Nat) : (l.drop n).getD k 0 = l.getD (n + k) 0 := by
  rw [List.getD_eq_getElem?_getD, List.getElem?_drop, List.getD_eq_getElem?_getD]
theorem y8 (s : List UInt8) (hs : s.length ≤ 1048576) (h : View) (O : Hp) : GSpec Tryz.prog 8 [sV s] h O (New O (ParR s)) := by
  have hrp := ref_par s
  by_cases h1000 : s.length ≤ 1000
  · by_cases h6 : 6 ≤ (numV s).length
    · obtain ⟨hin, -, hnl⟩ := nuT_in s s.length
      rw [nuT_all] at hin hnl
      obtain ⟨N, hN⟩ : ∃ N, numV s = N := ⟨_, rfl⟩
      have e28 := fun O => y28 s h1000 h O
      rw [hN] at e28 h6 hin hnl
      have hps := pairs_len (N.drop 6)
      rw [List.length_drop] at hps
      have hpg : ∀ k < (pairs (N.drop 6)).length, (pairs (N.drop 6)).getD k default = ⟨N.getD (6 + 2 * k) 0, N.getD (6 + 2 * k + 1) 0⟩ := fun k hk => by
        rw [pairs_get _ _ hk, drop_get, drop_get]; rfl
      have htp : tryP s = ⟨N.getD 0 0, N.getD 1 0, N.getD 2 0, N.getD 3 0, N.getD 4 0, N.getD 5 0, pairs (N.drop 6)⟩ := by unfold tryP mkP; rw [hN]
      generalize hM : pairs (N.drop 6) = M at *
      refine GSpec.enter (fn := Tryz.f8) Tryz.func8 rfl (by kernel_rfl) ?_
      repeat' (conv => whnf
               first
               | (((with_reducible refine CallSt.new (f := 28) (R := (LsR (fun x : Int => [zI x]) N)) ?_ ?_); (· exact e28 _); rintro _ H1 ⟨na, nc, rfl, hnr, hncap⟩))
               | ((with_reducible refine DrawSt.walk [0, 1, 2, 3, 4, 5, 6, 7, 8, 9, 10, 11, 12, 13, 14, 15, 16, 17, 18, 19, 20] mixed ?_ ?_); · decide +kernel)
               | (with_reducible refine NextSt.mk ?_)
               | (with_reducible refine OnBB.ff ?_)
               | ((with_reducible apply Cmp.no); · first | omega | (with_reducible assumption))
               | ((with_reducible refine AllocSt.mk ?_); intro _b _hb _hbO))
      rw [flat_one] at hnr
      repeat' (conv => whnf
               first
               | ((with_reducible apply LoadSt.rdZ); (· (repeat (first | with_reducible assumption | (with_reducible apply Rd.any; with_reducible assumption) | (with_reducible apply Buf.rd; with_reducible assumption) | (with_reducible apply Rd.appL; with_reducible assumption) | (with_reducible apply Rd.appL; with_reducible apply Buf.rd; with_reducible assumption) | (with_reducible apply Rd.ofH; with_reducible assumption) | (with_reducible apply Rd.ofH1; with_reducible assumption) | with_reducible apply Rd.cons | with_reducible apply Rd.appR))); · (first | omega | (simp only [List.length_map, List.length_append, List.length_cons, List.length_nil, List.length_take, List.length_drop, List.length_replicate, List.length_set] at *; omega)))
               | (with_reducible refine NextSt.mk ?_)
               | ((with_reducible refine AllocSt.mk ?_); intro _b _hb _hbO)
               | ((with_reducible apply StoreSt.box); (· (repeat (first | exact Upd.hd | apply Upd.tl | apply Upd.app))); (· rfl); (· rfl); (· rfl))
               | ((with_reducible apply IdxSl.rd1); (· with_reducible assumption); (· rfl); (· first | with_reducible rfl | exact natL _); (· (first | omega | (simp only [List.length_map, List.length_append, List.length_cons, List.length_nil, List.length_take, List.length_drop, List.length_replicate, List.length_set] at *; omega))); · (first | omega | (simp only [List.length_map, List.length_append, List.length_cons, List.length_nil, List.length_take, List.length_drop, List.length_replicate, List.length_set] at *; omega))))
      rename_i b5 _ _
      obtain ⟨b2, hb2⟩ : ∃ x, x = _b := ⟨_, rfl⟩
      subst hb2
      refine LoopSt.fix [6, 38, 39, 40, 41, 42, 43, 44, 45, 46, 47, 48, 49, 50, 51, 52, 53, 54, 55, 56, 57, 58, 59] (fun ((k, B) : Nat × Buf) => [(6, iN (6 + 2 * k))]) (fun (k, B) => B.hp 66 ((M.take k).flatMap shV) ++ ((b2, .cells ⟨[.int .i64 (N.getD 0 0), .int .i64 (N.getD 1 0), .int .i64 (N.getD 2 0), .int .i64 (N.getD 3 0), .int .i64 (N.getD 4 0), .int .i64 (N.getD 5 0), .slice B.a k B.cap]⟩ 24 (0, 0)) :: (H1 ++ ((b5, .cells ⟨[.int .i64 0, .int .i64 0, .int .i64 0, .int .i64 0, .int .i64 0, .int .i64 0, .slice none 0 0]⟩ 24 (0, 0)) :: O)))) (fun (k, B) => k ≤ M.length ∧ B.ok 2 ((M.take k).flatMap shV) k) (fun (k, B) => M.length - k) ((0, Buf.nil)) _ (Wk.refl _ _) (rfl) ?_ ?_ ?_
      · repeat' (first | exact True.intro | refine And.intro ?_ ?_ | rfl | exact congrArg (Value.int _) (by omega) | exact congrArg (fun n => Value.slice _ n _) (by (try dsimp only); omega))
      · exact ⟨Nat.zero_le _, Buf.nil_ok 2⟩
      · rintro ⟨k, B⟩ d ⟨hk, hB⟩
        dsimp only at hk hB ⊢
        by_cases hkl : k < M.length
        · have hst : M.take (k + 1) = M.take k ++ [⟨N.getD (6 + 2 * k) 0, N.getD (6 + 2 * k + 1) 0⟩] := by
            rw [List.take_add_one, List.getElem?_eq_getElem hkl, ← hpg k hkl, List.getD_eq_getElem?_getD, List.getElem?_eq_getElem hkl]; rfl
          have hb1 : 6 + 2 * k + 1 < N.length := by omega
          repeat' (conv => whnf
                   first
                   | (((apply AppSt.litm (g := shV) (x := ⟨N.getD (6 + 2 * k) 0, N.getD (6 + 2 * k + 1) 0⟩) (xs := M.take k) (s := 2) (z := .agg ⟨[.int .i64 0, .int .i64 0]⟩)); (· (repeat (first | with_reducible exact Loc.hd | with_reducible exact Loc.last | with_reducible exact Loc.one | with_reducible apply Loc.tl | with_reducible apply Loc.skip))); (· exact hB); (· (repeat (first | exact List.Mem.head _ | with_reducible apply List.mem_append_right | with_reducible apply List.mem_cons_of_mem))); (· rfl); (· rfl); (· rfl); (· rfl); (· rfl); (· rfl); (· rfl); (· (show _ * 16 ≤ _; omega)); (· omega); intro B1 hB1))
                   | ((with_reducible refine DrawSt.walk [0, 1, 2, 3, 4, 5, 6, 7, 8, 9, 10, 11, 12, 13, 14, 15] mixed ?_ ?_); · decide +kernel)
                   | ((with_reducible apply LoadSt.rdZ); (· (repeat (first | with_reducible assumption | (with_reducible apply Rd.any; with_reducible assumption) | (with_reducible apply Buf.rd; with_reducible assumption) | (with_reducible apply Rd.appL; with_reducible assumption) | (with_reducible apply Rd.appL; with_reducible apply Buf.rd; with_reducible assumption) | (with_reducible apply Rd.ofH; with_reducible assumption) | (with_reducible apply Rd.ofH1; with_reducible assumption) | with_reducible apply Rd.cons | with_reducible apply Rd.appR))); · (first | omega | (simp only [List.length_map, List.length_append, List.length_cons, List.length_nil, List.length_take, List.length_drop, List.length_replicate, List.length_set] at *; omega)))
                   | (with_reducible refine NextSt.mk ?_)
                   | (with_reducible refine OnBB.tt ?_)
                   | ((with_reducible apply NW.addN); (· first | with_reducible rfl | exact natL _); (· first | with_reducible rfl | exact natL _); (· omega))
                   | ((with_reducible apply Cmp.yes); · first | omega | (with_reducible assumption) | (with_reducible rfl))
                   | ((with_reducible apply LoadSt.box); · (repeat (first | exact List.Mem.head _ | with_reducible apply List.mem_append_right | with_reducible apply List.mem_cons_of_mem)))
                   | ((with_reducible refine AllocSt.mk ?_); intro _b _hb _hbO)
                   | ((with_reducible apply StoreSt.box); (· (repeat (first | exact Upd.hd | apply Upd.tl | apply Upd.app))); (· rfl); (· rfl); (· rfl))
                   | ((with_reducible apply IdxSl.rd1); (· with_reducible assumption); (· rfl); (· first | with_reducible rfl | exact natL _); (· (first | omega | (simp only [List.length_map, List.length_append, List.length_cons, List.length_nil, List.length_take, List.length_drop, List.length_replicate, List.length_set] at *; omega))); · (first | omega | (simp only [List.length_map, List.length_append, List.length_cons, List.length_nil, List.length_take, List.length_drop, List.length_replicate, List.length_set] at *; omega))))
          refine RoundFix.mk (k + 1, B1) ?_ ?_ _ rfl (by dsimp only; rw [hst]; exact Wk.drop (by (try dsimp only); (try simp only [List.cons_append, List.nil_append]); (repeat (first | with_reducible exact List.Sublist.refl _ | with_reducible exact List.nil_sublist _ | with_reducible apply List.Sublist.cons_cons | with_reducible apply sub_app | apply List.Sublist.cons_cons | apply sub_app | with_reducible apply List.Sublist.cons | with_reducible apply sub_skip)))) ?_
          · dsimp only; omega
          · repeat' (first | exact True.intro | refine And.intro ?_ ?_ | exact congrArg iN (show 6 + 2 * k + 2 = 6 + 2 * (k + 1) by omega) | rfl | exact congrArg (Value.int _) (by omega) | exact congrArg (fun n => Value.slice _ n _) (by (try dsimp only); omega))
          · exact ⟨hkl, by dsimp only; rw [hst]; exact hB1⟩
        · have : k = M.length := by omega
          subst this
          rw [List.take_length] at hB ⊢
          obtain ⟨T, hT⟩ : ∃ T : Pl, T = ⟨N.getD 0 0, N.getD 1 0, N.getD 2 0, N.getD 3 0, N.getD 4 0, N.getD 5 0, M⟩ := ⟨_, rfl⟩
          rw [← hT] at htp
          have e6 := fun O hr => y6 T B.a B.cap (by rw [hT]; show M.length ≤ _; omega) h O hr
          have hpl : ∀ a c, plV T a c = [.int .i64 (N.getD 0 0), .int .i64 (N.getD 1 0), .int .i64 (N.getD 2 0), .int .i64 (N.getD 3 0), .int .i64 (N.getD 4 0), .int .i64 (N.getD 5 0), .slice a M.length c] := fun a c => by rw [hT]; rfl
          have hTl : T.log = M := by rw [hT]
          rw [hpl, hTl] at e6
          rw [htp] at hrp
          by_cases hok : pOk T
          · have hc : chkP T = 0 := if_pos hok
            have hpt : prT T = .tuple ⟨[sV (prV T), .int .i64 0]⟩ := by unfold prT; rw [hc]; rfl
            rw [hpt] at e6
            by_cases he : prV T = s
            · have hpv : parV s = some T := by rw [hrp, if_pos ⟨h1000, by rw [hN]; exact h6, hok, he⟩]
              have h1 : parP s = T := by unfold parP; rw [hpv]; rfl
              have h2 : parE s = 0 := by unfold parE; rw [hpv]; rfl
              rw [he] at e6
              repeat' (conv => whnf
                       first
                       | (((with_reducible refine CallSt.rd (f := 6) (X := .tuple ⟨[sV s, .int .i64 0]⟩) ?_ ?_); (· exact e6 _ (by (repeat (first | with_reducible assumption | (with_reducible apply Buf.rd; with_reducible assumption) | (with_reducible apply Rd.appL; with_reducible assumption) | (with_reducible apply Rd.appL; with_reducible apply Buf.rd; with_reducible assumption) | (with_reducible apply Rd.ofH; with_reducible assumption) | (with_reducible apply Rd.ofH1; with_reducible assumption) | with_reducible apply Rd.cons | with_reducible apply Rd.appR))))))
                       | (((with_reducible apply Cmp.no); · exact fun h => h rfl))
                       | (with_reducible refine NextSt.mk ?_)
                       | (with_reducible refine OnBB.ff ?_)
                       | ((with_reducible apply NW.addN); (· first | with_reducible rfl | exact natL _); (· first | with_reducible rfl | exact natL _); (· omega))
                       | ((with_reducible apply Cmp.no); · first | omega | (with_reducible assumption))
                       | ((with_reducible apply LoadSt.boxAgg); · (repeat (first | exact List.Mem.head _ | with_reducible apply List.mem_append_right | with_reducible apply List.mem_cons_of_mem)))
                       | ((with_reducible apply StoreSt.box); (· (repeat (first | exact Upd.hd | apply Upd.tl | apply Upd.app))); (· rfl); (· rfl); (· rfl)))
              conv => whnf
              refine FinSt.new (H := B.hp 66 (M.flatMap shV)) (by (try dsimp only); (try simp only [List.cons_append, List.nil_append]); (repeat (first | with_reducible exact List.Sublist.refl _ | with_reducible exact List.nil_sublist _ | with_reducible apply List.Sublist.cons_cons | with_reducible apply sub_app | apply List.Sublist.cons_cons | apply sub_app | with_reducible apply List.Sublist.cons | with_reducible apply sub_skip))) ?_
              exact ⟨B.a, B.cap, by rw [h1, h2, hpl], by rw [h1, hTl]; exact Buf.rd hB⟩
            · have hno : parV s = none := by rw [hrp, if_neg (fun e => he e.2.2.2)]
              generalize prV T = Q at *
              repeat' (conv => whnf
                       first
                       | (((with_reducible refine CallSt.rd (f := 6) (X := .tuple ⟨[sV Q, .int .i64 0]⟩) ?_ ?_); (· exact e6 _ (by (repeat (first | with_reducible assumption | (with_reducible apply Buf.rd; with_reducible assumption) | (with_reducible apply Rd.appL; with_reducible assumption) | (with_reducible apply Rd.appL; with_reducible apply Buf.rd; with_reducible assumption) | (with_reducible apply Rd.ofH; with_reducible assumption) | (with_reducible apply Rd.ofH1; with_reducible assumption) | with_reducible apply Rd.cons | with_reducible apply Rd.appR))))))
                       | (with_reducible refine NextSt.mk ?_)
                       | (with_reducible refine OnBB.tt ?_)
                       | (with_reducible refine OnBB.ff ?_)
                       | ((with_reducible apply NW.addN); (· first | with_reducible rfl | exact natL _); (· first | with_reducible rfl | exact natL _); (· omega))
                       | ((with_reducible apply Cmp.yes); · first | omega | (with_reducible assumption) | (with_reducible rfl))
                       | ((with_reducible apply Cmp.no); · first | omega | (with_reducible assumption))
                       | ((with_reducible apply LoadSt.boxAgg); · (repeat (first | exact List.Mem.head _ | with_reducible apply List.mem_append_right | with_reducible apply List.mem_cons_of_mem)))
                       | ((with_reducible apply StoreSt.box); (· (repeat (first | exact Upd.hd | apply Upd.tl | apply Upd.app))); (· rfl); (· rfl); (· rfl)))
              conv => whnf
              refine FinSt.new (H := []) (by (try dsimp only); (try simp only [List.cons_append, List.nil_append]); (repeat (first | with_reducible exact List.Sublist.refl _ | with_reducible exact List.nil_sublist _ | with_reducible apply List.Sublist.cons_cons | with_reducible apply sub_app | apply List.Sublist.cons_cons | apply sub_app | with_reducible apply List.Sublist.cons | with_reducible apply sub_skip))) ?_
              exact par_none hno []
          · have hc : chkP T = 30 := if_neg hok
            have hpt : prT T = .tuple ⟨[sV [], .int .i64 30]⟩ := by unfold prT; rw [hc]; rfl
            rw [hpt] at e6
            have hno : parV s = none := by rw [hrp, if_neg (fun e => hok e.2.2.1)]
            repeat' (conv => whnf
                     first
                     | (((with_reducible refine CallSt.rd (f := 6) (X := .tuple ⟨[sV [], .int .i64 30]⟩) ?_ ?_); (· exact e6 _ (by (repeat (first | with_reducible assumption | (with_reducible apply Buf.rd; with_reducible assumption) | (with_reducible apply Rd.appL; with_reducible assumption) | (with_reducible apply Rd.appL; with_reducible apply Buf.rd; with_reducible assumption) | (with_reducible apply Rd.ofH; with_reducible assumption) | (with_reducible apply Rd.ofH1; with_reducible assumption) | with_reducible apply Rd.cons | with_reducible apply Rd.appR))))))
                     | (with_reducible refine NextSt.mk ?_)
                     | (with_reducible refine OnBB.tt ?_)
                     | (with_reducible refine OnBB.ff ?_)
                     | ((with_reducible apply NW.addN); (· first | with_reducible rfl | exact natL _); (· first | with_reducible rfl | exact natL _); (· omega))
                     | ((with_reducible apply Cmp.yes); · first | omega | (with_reducible assumption) | (with_reducible rfl))
                     | ((with_reducible apply Cmp.no); · first | omega | (with_reducible assumption))
                     | ((with_reducible apply LoadSt.boxAgg); · (repeat (first | exact List.Mem.head _ | with_reducible apply List.mem_append_right | with_reducible apply List.mem_cons_of_mem)))
                     | ((with_reducible apply StoreSt.box); (· (repeat (first | exact Upd.hd | apply Upd.tl | apply Upd.app))); (· rfl); (· rfl); (· rfl)))
            conv => whnf
            refine FinSt.new (H := []) (by (try dsimp only); (try simp only [List.cons_append, List.nil_append]); (repeat (first | with_reducible exact List.Sublist.refl _ | with_reducible exact List.nil_sublist _ | with_reducible apply List.Sublist.cons_cons | with_reducible apply sub_app | apply List.Sublist.cons_cons | apply sub_app | with_reducible apply List.Sublist.cons | with_reducible apply sub_skip))) ?_
            exact par_none hno []
    · have hno : parV s = none := by rw [hrp, if_neg (fun e => h6 e.2.1)]
      have e28 := fun O => y28 s h1000 h O
      generalize hN : numV s = N at *
      refine GSpec.enter (fn := Tryz.f8) Tryz.func8 rfl (by kernel_rfl) ?_
      repeat' (conv => whnf
               first
               | (((with_reducible refine CallSt.new (f := 28) (R := (LsR (fun x : Int => [zI x]) N)) ?_ ?_); (· exact e28 _); rintro _ H1 ⟨na, nc, rfl, hnr, hncap⟩))
               | (with_reducible refine NextSt.mk ?_)
               | (with_reducible refine OnBB.tt ?_)
               | (with_reducible refine OnBB.ff ?_)
               | ((with_reducible apply Cmp.yes); · first | omega | (with_reducible assumption) | (with_reducible rfl))
               | ((with_reducible apply Cmp.no); · first | omega | (with_reducible assumption))
               | ((with_reducible apply LoadSt.boxAgg); · (repeat (first | exact List.Mem.head _ | with_reducible apply List.mem_append_right | with_reducible apply List.mem_cons_of_mem)))
               | ((with_reducible refine AllocSt.mk ?_); intro _b _hb _hbO)
               | ((with_reducible apply StoreSt.box); (· (repeat (first | exact Upd.hd | apply Upd.tl | apply Upd.app))); (· rfl); (· rfl); (· rfl)))
      conv => whnf
      refine FinSt.new (H := []) (by (try dsimp only); (try simp only [List.cons_append, List.nil_append]); (repeat (first | with_reducible exact List.Sublist.refl _ | with_reducible exact List.nil_sublist _ | with_reducible apply List.Sublist.cons_cons | with_reducible apply sub_app | apply List.Sublist.cons_cons | apply sub_app | with_reducible apply List.Sublist.cons | with_reducible apply sub_skip))) ?_
      exact par_none hno []
  · have hno : parV s = none := by rw [hrp, if_neg (fun e => h1000 e.1)]
    refine GSpec.enter (fn := Tryz.f8) Tryz.func8 rfl (by kernel_rfl) ?_
    repeat' (conv => whnf
             first
             | (with_reducible refine NextSt.mk ?_)
             | (with_reducible refine OnBB.tt ?_)
             | ((with_reducible apply Cmp.yes); · first | omega | (with_reducible assumption) | (with_reducible rfl))
             | ((with_reducible apply LoadSt.boxAgg); · (repeat (first | exact List.Mem.head _ | with_reducible apply List.mem_append_right | with_reducible apply List.mem_cons_of_mem)))
             | ((with_reducible refine AllocSt.mk ?_); intro _b _hb _hbO)
             | ((with_reducible apply StoreSt.box); (· (repeat (first | exact Upd.hd | apply Upd.tl | apply Upd.app))); (· rfl); (· rfl); (· rfl)))
    conv => whnf
    refine FinSt.new (H := []) (by (try dsimp only); (try simp only [List.cons_append, List.nil_append]); (repeat (first | with_reducible exact List.Sublist.refl _ | with_reducible exact List.nil_sublist _ | with_reducible apply List.Sublist.cons_cons | with_reducible apply sub_app | apply List.Sublist.cons_cons | apply sub_app | with_reducible apply List.Sublist.cons | with_reducible apply sub_skip))) ?_
    exact par_none hno []
end Go.Proofs.YtaahjlhfmkjefaaGreatDoor
