/- The laws' functions over books. -/
import Derived.Test.YtlbmlimaobkhpaaLa
set_option linter.unusedVariables false
set_option linter.unusedSimpArgs false
set_option linter.unusedSectionVars false
/- The laws' helpers over entries: entries, few. -/
namespace Go.Proofs.Ytlbmlimaobkhpaa
open Go Go.Gv
set_option maxRecDepth 100000
set_option maxHeartbeats 4000000
set_option linter.unusedSimpArgs false
set_option linter.unusedVariables false
theorem f60 (l m : List En) (a1 a2 : Option Addr) (c1 c2 : Nat) (hl : l.length ≤ 9223372036854775807) (hm : m.length ≤ 9223372036854775807) (hlw : ∀ e ∈ l, enW e) (hmw : ∀ e ∈ m, enW e) (h : View) (O : Hp) (h1 : Rd h O a1 (l.flatMap enV)) (h2 : Rd h O a2 (m.flatMap enV)) :
    GSpec Try.prog 60 [.slice a1 l.length c1, .slice a2 m.length c2] h O (Ret O (.bool (decide (l = m)))) := by
  by_cases hlen : l.length = m.length
  · refine GSpec.enter (fn := Try.f60) Try.func60 rfl (by kernel_rfl) ?_
    repeat' (conv => whnf
             first
             | (with_reducible refine NextSt.mk ?_)
             | (with_reducible refine OnBB.ff ?_)
             | ((with_reducible apply Cmp.no); · omega))
    refine LoopSt.fix [4, 5, 11, 12, 13, 14, 15, 16, 17, 18, 19, 20, 21, 22, 23, 24, 25] (fun (k : Nat) => [(5, iN k)]) (fun _ => _) (fun k => k ≤ l.length ∧ l.take k = m.take k) (fun k => l.length - k) (0) _ (Wk.refl _ _) (rfl) ?_ ?_ ?_
    · repeat' (first | exact True.intro | refine And.intro ?_ ?_ | rfl)
    · exact ⟨Nat.zero_le _, rfl⟩
    · intro k d2 hkk
      obtain ⟨hk, hkt⟩ := hkk
      by_cases hkl : k < l.length
      · have hkm : k < m.length := by omega
        have e1 := hlw _ (getD_mem (d := default) hkl)
        have e2 := hmw _ (getD_mem (d := default) hkm)
        by_cases he : l.getD k default = m.getD k default
        · repeat' (conv => whnf
                   first
                   | ((refine eq70 e1 e2 ?_); rw [decide_eq_true he])
                   | ((with_reducible refine DrawSt.walk [0, 1, 2, 3, 4, 5, 6, 7, 8] mixed ?_ ?_); · decide +kernel)
                   | ((with_reducible apply LoadSt.rdg (g := enV) (s := 3)); (· rfl); (· (repeat (with_reducible assumption))); (· exact fun _ => rfl); (· decide); · (omega))
                   | ((with_reducible apply IdxSl.rdg (g := enV) (s := 3)); (· with_reducible assumption); (· exact fun _ => rfl); (· decide); (· rfl); (· with_reducible rfl); (· (omega)); · (omega))
                   | (with_reducible refine NextSt.mk ?_)
                   | (with_reducible refine OnBB.tt ?_)
                   | (with_reducible refine OnBB.ff ?_)
                   | ((with_reducible apply NW.addN); (· with_reducible rfl); (· exact natL _); (· omega))
                   | ((with_reducible apply Cmp.yes); · omega))
          refine RoundFix.mk (k + 1) ?_ ?_ _ rfl (Wk.drop (by (try dsimp only); (try simp only [List.cons_append, List.nil_append]); (repeat (with_reducible exact List.Sublist.refl _)))) ?_
          · omega
          · repeat' (first | exact True.intro | refine And.intro ?_ ?_ | rfl)
          · exact ⟨by omega, by rw [take_succ (d := default) hkl, take_succ (d := default) hkm, hkt, he]⟩
        · rw [decide_eq_false (fun e => he (by rw [e]))]
          repeat' (conv => whnf
                   first
                   | ((refine eq70 e1 e2 ?_); rw [decide_eq_false he])
                   | ((with_reducible refine DrawSt.walk [0, 1, 2, 3, 4, 5, 6, 7, 8] mixed ?_ ?_); · decide +kernel)
                   | ((with_reducible apply LoadSt.rdg (g := enV) (s := 3)); (· rfl); (· (repeat (with_reducible assumption))); (· exact fun _ => rfl); (· decide); · (omega))
                   | ((with_reducible apply IdxSl.rdg (g := enV) (s := 3)); (· with_reducible assumption); (· exact fun _ => rfl); (· decide); (· rfl); (· with_reducible rfl); (· (omega)); · (omega))
                   | (with_reducible refine NextSt.mk ?_)
                   | (with_reducible refine OnBB.tt ?_)
                   | ((with_reducible apply Cmp.yes); · omega))
          conv => whnf
          refine FinSt.ret (by (try dsimp only); (try simp only [List.cons_append, List.nil_append]); (repeat (with_reducible exact List.Sublist.refl _))) ?_
          rfl
      · rw [decide_eq_true (by rw [List.take_of_length_le (by omega), List.take_of_length_le (by omega)] at hkt; exact hkt)]
        repeat' (conv => whnf
                 first
                 | (with_reducible refine NextSt.mk ?_)
                 | (with_reducible refine OnBB.ff ?_)
                 | ((with_reducible apply Cmp.no); · omega))
        conv => whnf
        refine FinSt.ret (by (try dsimp only); (try simp only [List.cons_append, List.nil_append]); (repeat (with_reducible exact List.Sublist.refl _))) ?_
        rfl
  · rw [decide_eq_false (fun e => hlen (by rw [e]))]
    refine GSpec.enter (fn := Try.f60) Try.func60 rfl (by kernel_rfl) ?_
    repeat' (conv => whnf
             first
             | (with_reducible refine NextSt.mk ?_)
             | (with_reducible refine OnBB.tt ?_)
             | ((with_reducible apply Cmp.yes); · omega))
    conv => whnf
    refine FinSt.ret (by (try dsimp only); (try simp only [List.cons_append, List.nil_append]); (repeat (with_reducible exact List.Sublist.refl _))) ?_
    rfl
/-- The laws' worlds. -/
structure Wd where
  offices : Int
  sectors : Int
  a : Option Addr
  cap : Nat
  items : List En
def wdV (x : Wd) : List Value := [.int .i64 x.offices, .int .i64 x.sectors, .slice x.a x.items.length x.cap]
def Wd.few (x : Wd) : Prop := (1 ≤ x.offices ∧ x.offices ≤ 8 ∧ 1 ≤ x.sectors ∧ x.sectors ≤ 100 ∧ x.items.length ≤ 24) ∧ ∀ e ∈ x.items, e.body.length ≤ 1100
instance (x : Wd) : Decidable x.few := by unfold Wd.few; infer_instance
theorem f52 (x : Wd) (hl : x.items.length ≤ 9223372036854775807) (hb : ∀ e ∈ x.items, e.body.length ≤ 9223372036854775807) (h : View) (O : Hp) (h1 : Rd h O x.a (x.items.flatMap enV)) :
    GSpec Try.prog 52 [.agg ⟨wdV x⟩] h O (Ret O (.bool (decide x.few))) := by
  obtain ⟨o, s, a, cap, l⟩ := x
  simp only at hl hb h1
  show GSpec Try.prog 52 [.agg ⟨[.int .i64 o, .int .i64 s, .slice a l.length cap]⟩] h O _
  by_cases hg : 1 ≤ o ∧ o ≤ 8 ∧ 1 ≤ s ∧ s ≤ 100 ∧ l.length ≤ 24
  · refine GSpec.enter (fn := Try.f52) Try.func52 rfl (by kernel_rfl) ?_
    repeat' (conv => whnf
             first
             | (with_reducible refine NextSt.mk ?_)
             | (with_reducible refine OnBB.ff ?_)
             | ((with_reducible apply Cmp.no); · omega)
             | ((with_reducible apply LoadSt.box); · (repeat (exact List.Mem.head _)))
             | ((with_reducible refine AllocSt.mk ?_); intro _b _hb _hbO))
    refine LoopSt.fix [2, 3, 28, 29, 30, 31, 32, 33, 34, 35, 36, 37, 38, 39, 40, 41, 42] (fun (k : Nat) => [(3, iN k)]) (fun _ => _) (fun k => k ≤ l.length ∧ ∀ e ∈ l.take k, e.body.length ≤ 1100) (fun k => l.length - k) (0) _ (Wk.refl _ _) (rfl) ?_ ?_ ?_
    · repeat' (first | exact True.intro | refine And.intro ?_ ?_ | rfl)
    · exact ⟨Nat.zero_le _, fun e he => (by cases he)⟩
    · intro k d2 hkk
      obtain ⟨hk, hkt⟩ := hkk
      by_cases hkl : k < l.length
      · have e1 := hb _ (getD_mem (d := default) hkl)
        by_cases he : (l.getD k default).body.length ≤ 1100
        · repeat' (conv => whnf
                   first
                   | (((with_reducible apply LoadSt.rdf (g := enV) (s := 3)); (· (repeat (first | with_reducible assumption | with_reducible apply Rd.cons))); (· exact fun _ => rfl); (· (omega)); (· decide)))
                   | ((with_reducible apply IdxSl.rdg (g := enV) (s := 3)); (· with_reducible assumption); (· exact fun _ => rfl); (· decide); (· rfl); (· with_reducible rfl); (· (omega)); · (omega))
                   | (with_reducible refine NextSt.mk ?_)
                   | (with_reducible refine OnBB.tt ?_)
                   | (with_reducible refine OnBB.ff ?_)
                   | ((with_reducible apply NW.addN); (· with_reducible rfl); (· exact natL _); (· omega))
                   | ((with_reducible apply Cmp.yes); · omega)
                   | ((with_reducible apply Cmp.no); · omega)
                   | ((with_reducible apply LoadSt.box); · (repeat (exact List.Mem.head _))))
          refine RoundFix.mk (k + 1) ?_ ?_ _ rfl (Wk.drop (by (try dsimp only); (try simp only [List.cons_append, List.nil_append]); (repeat (with_reducible exact List.Sublist.refl _)))) ?_
          · omega
          · repeat' (first | exact True.intro | refine And.intro ?_ ?_ | rfl)
          · refine ⟨by omega, fun e h3 => ?_⟩
            rw [take_succ (d := default) hkl] at h3
            rcases List.mem_append.1 h3 with h4 | h4
            · exact hkt e h4
            · rw [List.mem_singleton] at h4; subst h4; exact he
        · rw [decide_eq_false (fun (f : Wd.few _) => he (f.2 _ (getD_mem hkl)))]
          repeat' (conv => whnf
                   first
                   | (((with_reducible apply LoadSt.rdf (g := enV) (s := 3)); (· (repeat (first | with_reducible assumption | with_reducible apply Rd.cons))); (· exact fun _ => rfl); (· (omega)); (· decide)))
                   | ((with_reducible apply IdxSl.rdg (g := enV) (s := 3)); (· with_reducible assumption); (· exact fun _ => rfl); (· decide); (· rfl); (· with_reducible rfl); (· (omega)); · (omega))
                   | (with_reducible refine NextSt.mk ?_)
                   | (with_reducible refine OnBB.tt ?_)
                   | ((with_reducible apply Cmp.yes); · omega)
                   | ((with_reducible apply LoadSt.box); · (repeat (exact List.Mem.head _))))
          conv => whnf
          refine FinSt.ret (by (try dsimp only); (try simp only [List.cons_append, List.nil_append]); (repeat (first | with_reducible exact List.Sublist.refl _ | with_reducible apply List.Sublist.cons))) ?_
          rfl
      · rw [decide_eq_true (show Wd.few _ from ⟨hg, fun e he => hkt e (by rw [List.take_of_length_le (by omega)]; exact he)⟩)]
        repeat' (conv => whnf
                 first
                 | (with_reducible refine NextSt.mk ?_)
                 | (with_reducible refine OnBB.ff ?_)
                 | ((with_reducible apply Cmp.no); · omega)
                 | ((with_reducible apply LoadSt.box); · (repeat (exact List.Mem.head _))))
        conv => whnf
        refine FinSt.ret (by (try dsimp only); (try simp only [List.cons_append, List.nil_append]); (repeat (first | with_reducible exact List.Sublist.refl _ | with_reducible apply List.Sublist.cons))) ?_
        rfl
  · rw [decide_eq_false (fun (f : Wd.few _) => hg f.1)]
    refine GSpec.enter (fn := Try.f52) Try.func52 rfl (by kernel_rfl) ?_
    repeat' (conv => whnf
             first
             | (with_reducible refine NextSt.mk ?_)
             | (with_reducible refine OnBB.tt ?_)
             | (with_reducible refine OnBB.ff ?_)
             | ((with_reducible apply Cmp.yes); · omega)
             | ((with_reducible apply LoadSt.box); · (repeat (exact List.Mem.head _)))
             | ((with_reducible refine AllocSt.mk ?_); intro _b _hb _hbO)
             | ((with_reducible refine Cmp.mk ?_ ?_) <;> intro _hc))
    all_goals (conv => whnf)
    all_goals refine FinSt.ret (by (try dsimp only); (try simp only [List.cons_append, List.nil_append]); (repeat (first | with_reducible exact List.Sublist.refl _ | with_reducible apply List.Sublist.cons))) ?_
    all_goals rfl
end Go.Proofs.Ytlbmlimaobkhpaa
/- The laws' helpers: pick. -/
namespace Go.Proofs.Ytlbmlimaobkhpaa
open Go Go.Gv
set_option maxRecDepth 100000
set_option maxHeartbeats 4000000
set_option linter.unusedSimpArgs false
set_option linter.unusedVariables false
def zV (n : Int) : Value := .int .i64 n
def pickV (items : List En) (at_ : List Int) : List En := at_.flatMap fun (i : Int) => if 0 ≤ i ∧ i < (items.length : Int) then [items.getD i.toNat default] else []
theorem pickV_take {items : List En} {at_ : List Int} {k : Nat} (h : k < at_.length) : pickV items (at_.take (k + 1)) = pickV items (at_.take k) ++ if 0 ≤ at_.getD k default ∧ at_.getD k default < (items.length : Int) then [items.getD (at_.getD k default).toNat default] else [] := by
  unfold pickV
  rw [take_succ (d := default) h, List.flatMap_append, List.flatMap_singleton]
theorem pickV_len {items : List En} : ∀ at_ : List Int, (pickV items at_).length ≤ at_.length
  | [] => Nat.le_refl _
  | i :: r => by
    have := pickV_len (items := items) r
    unfold pickV at this ⊢
    rw [List.flatMap_cons, List.length_append, List.length_cons]
    split <;> simp only [List.length_cons, List.length_nil] <;> omega
theorem f53 (x : Wd) (at_ : List Int) (a2 : Option Addr) (c2 : Nat) (hal : at_.length ≤ 1000) (hl : x.items.length ≤ 9223372036854775807) (h : View) (O : Hp) (h1 : Rd h O x.a (x.items.flatMap enV)) (h2 : Rd h O a2 (at_.map zV)) :
    GSpec Try.prog 53 [.agg ⟨wdV x⟩, .slice a2 at_.length c2] h O (New O (RowR (pickV x.items at_))) := by
  obtain ⟨o, s, a, cap, l⟩ := x
  simp only at hl h1
  show GSpec Try.prog 53 [.agg ⟨[.int .i64 o, .int .i64 s, .slice a l.length cap]⟩, _] h O _
  show GSpec Try.prog 53 _ h O (New O (RowR (pickV l at_)))
  refine GSpec.enter (fn := Try.f53) Try.func53 rfl (by kernel_rfl) ?_
  repeat' (conv => whnf
           first
           | (with_reducible refine NextSt.mk ?_)
           | ((with_reducible refine AllocSt.mk ?_); intro _b _hb _hbO))
  refine LoopSt.fix [5, 6, 7, 8, 9, 10, 11, 12, 13, 14, 15, 16, 17, 18, 19, 20, 21, 22, 23, 24, 25, 26, 27, 28, 29, 30, 31, 32, 33, 34, 35, 36, 37, 38] (fun ((k, B) : Nat × Buf) => [(5, .slice B.a (pickV l (at_.take k)).length B.cap), (6, iN k)]) (fun (k, B) => B.hp 70 ((pickV l (at_.take k)).flatMap enV) ++ ((_b, .cells ⟨[.int .i64 o, .int .i64 s, .slice a l.length cap]⟩ 65 (0, 0)) :: O)) (fun (k, B) => k ≤ at_.length ∧ B.ok 3 ((pickV l (at_.take k)).flatMap enV) (pickV l (at_.take k)).length) (fun (k, B) => at_.length - k) ((0, Buf.nil)) _ (Wk.refl _ _) (rfl) ?_ ?_ ?_
  · repeat' (first | exact True.intro | refine And.intro ?_ ?_ | rfl)
  · exact ⟨Nat.zero_le _, Buf.nil_ok 3⟩
  · rintro ⟨k, B⟩ d2 ⟨hk, hB⟩
    dsimp only at hk hB ⊢
    by_cases hkn : k < at_.length
    · have hst := pickV_take (items := l) hkn
      have hpl := pickV_len (items := l) (at_.take k)
      rw [List.length_take] at hpl
      by_cases hin : 0 ≤ at_.getD k default ∧ at_.getD k default < l.length
      · rw [if_pos hin] at hst
        obtain ⟨j, hj⟩ := nat_of hin.1
        rw [hj, Int.toNat_natCast] at hst
        rw [hj] at hin
        repeat' (conv => whnf
                 first
                 | (((with_reducible apply LoadSt.rdm (g := zV)); (· exact Rd.appR (Rd.cons h2)); (· omega)); rw [hj]; unfold zV)
                 | (((with_reducible apply AppSt.litm (g := enV) (x := l.getD j default) (s := 3) (z := .agg ⟨[.int .i64 0, .int .i64 0, .string ⟨⟨[]⟩⟩]⟩)); (· (repeat (first | with_reducible exact Loc.hd | with_reducible apply Loc.tl))); (· exact hB); (· (repeat (exact List.Mem.head _))); (· rfl); (· rfl); (· rfl); (· rfl); (· rfl); (· rfl); (· rfl); (· (show _ * 32 ≤ _; omega)); (· omega); intro C hC))
                 | ((with_reducible refine DrawSt.walk [0, 1, 2, 3, 4, 5, 6, 7, 8, 9, 10, 11, 12, 13, 14] mixed ?_ ?_); · decide +kernel)
                 | ((with_reducible refine DrawSt.walk [0, 1, 2, 3, 4, 5, 6, 7, 8, 9, 10, 11] mixed ?_ ?_); · decide +kernel)
                 | ((with_reducible apply LoadSt.rdg (g := enV) (s := 3)); (· rfl); (· (repeat (first | with_reducible assumption | with_reducible apply Rd.cons | with_reducible apply Rd.appR))); (· exact fun _ => rfl); (· decide); · (omega))
                 | ((with_reducible apply IdxSl.rdg (g := enV) (s := 3)); (· with_reducible assumption); (· exact fun _ => rfl); (· decide); (· rfl); (· with_reducible rfl); (· (omega)); · (omega))
                 | (with_reducible refine NextSt.mk ?_)
                 | (with_reducible refine OnBB.tt ?_)
                 | ((with_reducible apply NW.addN); (· with_reducible rfl); (· exact natL _); (· omega))
                 | ((with_reducible apply Cmp.yes); · omega)
                 | ((with_reducible apply LoadSt.box); · (repeat (first | exact List.Mem.head _ | with_reducible apply List.mem_append_right)))
                 | ((with_reducible refine AllocSt.mk ?_); intro _b _hb _hbO)
                 | ((with_reducible apply IdxSl.rd1); (· with_reducible assumption); (· rfl); (· with_reducible rfl); (· (omega)); · ((simp only [List.length_map, List.length_append, List.length_cons, List.length_nil, List.length_take, List.length_drop, List.length_replicate, List.length_set] at *; omega))))
        have hl2 : (pickV l (at_.take (k + 1))).length = (pickV l (at_.take k)).length + 1 := by rw [hst, List.length_append]; rfl
        rw [← hst] at hC ⊢
        rw [← hl2] at hC
        refine RoundFix.mk ((k + 1, C)) ?_ ?_ _ rfl (Wk.drop (by (try dsimp only); (try simp only [List.cons_append, List.nil_append]); (repeat (first | with_reducible exact List.Sublist.refl _ | with_reducible apply List.Sublist.cons)))) ?_
        · dsimp only; omega
        · repeat' (first | exact True.intro | refine And.intro ?_ ?_ | exact congrArg (fun n => Value.slice C.a n C.cap) hl2.symm | rfl)
        · exact ⟨by omega, hC⟩
      · rw [if_neg hin, List.append_nil] at hst
        rw [← hst] at hB ⊢
        repeat' (conv => whnf
                 first
                 | (((with_reducible apply LoadSt.rdm (g := zV)); (· exact Rd.appR (Rd.cons h2)); (· omega)); unfold zV)
                 | ((with_reducible refine DrawSt.walk [0, 1, 2, 3, 4, 5, 6, 7, 8, 9, 10, 11, 12, 13, 14] mixed ?_ ?_); · decide +kernel)
                 | (with_reducible refine NextSt.mk ?_)
                 | (with_reducible refine OnBB.tt ?_)
                 | (with_reducible refine OnBB.ff ?_)
                 | ((with_reducible apply NW.addN); (· with_reducible rfl); (· exact natL _); (· omega))
                 | ((with_reducible apply Cmp.yes); · omega)
                 | ((with_reducible apply Cmp.no); · omega)
                 | ((with_reducible apply LoadSt.box); · (repeat (first | exact List.Mem.head _ | with_reducible apply List.mem_append_right)))
                 | ((with_reducible apply IdxSl.rd1); (· with_reducible assumption); (· rfl); (· with_reducible rfl); (· (omega)); · ((simp only [List.length_map, List.length_append, List.length_cons, List.length_nil, List.length_take, List.length_drop, List.length_replicate, List.length_set] at *; omega)))
                 | ((with_reducible refine Cmp.mk ?_ ?_) <;> intro _hc))
        all_goals
          refine RoundFix.mk ((k + 1, B)) ?_ ?_ _ rfl (Wk.drop (by (try dsimp only); (try simp only [List.cons_append, List.nil_append]); (repeat (with_reducible exact List.Sublist.refl _)))) ?_
          · dsimp only; omega
          · repeat' (first | exact True.intro | refine And.intro ?_ ?_ | rfl)
          · exact ⟨by omega, hB⟩
    · have : k = at_.length := by omega
      subst this
      rw [List.take_length] at hB ⊢
      repeat' (conv => whnf
               first
               | (with_reducible refine NextSt.mk ?_)
               | (with_reducible refine OnBB.ff ?_)
               | ((with_reducible apply Cmp.no); · omega))
      exact FinSt.new (H := B.hp 70 ((pickV l at_).flatMap enV)) (R := RowR (pickV l at_)) (by (try dsimp only); (try simp only [List.cons_append, List.nil_append]); (repeat (first | with_reducible exact List.Sublist.refl _ | with_reducible apply sub_app | with_reducible apply List.Sublist.cons))) ⟨B, rfl, rfl, hB⟩
end Go.Proofs.Ytlbmlimaobkhpaa
/- A log's sum: the program's. -/
namespace Go.Proofs.Ytlbmlimaobkhpaa
open Go Go.Gv
set_option maxRecDepth 100000
set_option maxHeartbeats 4000000
set_option linter.unusedSimpArgs false
set_option linter.unusedVariables false
def uN (n : Nat) : Value := .int .u64 (n : Nat)
/-- One byte into a sum. -/
def fs1 (h b : Nat) : Nat := (h ^^^ b) * 1099511628211 % 18446744073709551616
theorem fs1_lt (h b : Nat) : fs1 h b < 18446744073709551616 := Nat.mod_lt _ (by decide)
def cell8 (p h : Nat) : Hp := [(p, .cells ⟨[uN h]⟩ 108 (0, 0))]
theorem f157 (p s b : Nat) (hs : s < 18446744073709551616) (hb : b < 256) (h : View) : GSpec Try.prog 157 [bN b, .pointer (some ⟨p, 0, none⟩)] h (cell8 p s) (fun v _ O' => v = noV ∧ O' = cell8 p (fs1 s b)) := by
  have hx : s ^^^ b < 18446744073709551616 := Nat.xor_lt_two_pow (n := 64) hs (Nat.lt_trans hb (by decide))
  have e : IntKind.u64.wrap (((s ^^^ b : Nat) : Int) * 1099511628211) = ((fs1 s b : Nat) : Int) := by
    rw [IntKind.wrap_u64]
    unfold fs1
    omega
  have e2 : IntKind.u64.wrap (((natOp BinOp.xor ((s : Nat) : Int).toNat ((b : Nat) : Int).toNat : Nat) : Int) * 1099511628211) = ((fs1 s b : Nat) : Int) := e
  unfold cell8
  refine GSpec.enter (fn := Try.f157) Try.func157 rfl (by kernel_rfl) ?_
  repeat' (conv => whnf
           first
           | ((refine NW.u64w ?_); rw [e2])
           | (with_reducible refine NextSt.mk ?_)
           | ((with_reducible apply NW.u64N); (· with_reducible rfl); (· omega))
           | ((with_reducible apply LoadSt.box); · (repeat (exact List.Mem.head _)))
           | ((with_reducible apply StoreSt.box); (· (repeat (exact Upd.hd))); (· rfl); (· rfl); (· rfl))
           | ((with_reducible apply Bits.u64); (· simp); · omega))
  exact FinSt.own (R := fun v O' => v = noV ∧ O' = [(p, .cells ⟨[uN (fs1 s b)]⟩ 108 (0, 0))]) (List.Sublist.refl _) ⟨rfl, rfl⟩
def eBs (e : En) : List Nat := [e.office.toNat, e.no.toNat, e.body.length % 256, e.body.length / 256 % 256] ++ nb e.body
def sumG (F : Nat → Nat → Nat) (l : List En) : Nat := (l.flatMap eBs).foldl F 14695981039346656037
theorem foldl_lt {F : Nat → Nat → Nat} (hF : ∀ s b, F s b < 18446744073709551616) : ∀ (l : List Nat) (s : Nat), s < 18446744073709551616 → l.foldl F s < 18446744073709551616
  | [], _, h => h
  | b :: l, s, _ => foldl_lt hF l (F s b) (hF s b)
theorem sumG_take {F : Nat → Nat → Nat} {l : List En} {k : Nat} (h : k < l.length) : sumG F (l.take (k + 1)) = (eBs (l.getD k default)).foldl F (sumG F (l.take k)) := by
  unfold sumG
  rw [take_succ (d := default) h, List.flatMap_append, List.flatMap_singleton, List.foldl_append]
theorem f117G (F : Nat → Nat → Nat) (hF : ∀ s b, F s b < 18446744073709551616) (f157 : ∀ (p s b : Nat), s < 18446744073709551616 → b < 256 → ∀ h, GSpec Try.prog 157 [bN b, .pointer (some ⟨p, 0, none⟩)] h [(p, .cells ⟨[uN s]⟩ 108 (0, 0))] (fun v _ O' => v = noV ∧ O' = [(p, .cells ⟨[uN (F s b)]⟩ 108 (0, 0))])) (l : List En) (a : Option Addr) (c : Nat) (hl : l.length ≤ 1000) (hok : ∀ e ∈ l, enOk e) (h : View) (O : Hp) (hr : Rd h O a (l.flatMap enV)) :
    GSpec Try.prog 117 [.slice a l.length c] h O (Ret O (uN (sumG F l))) := by
  refine GSpec.enter (fn := Try.f117) Try.func117 rfl (by kernel_rfl) ?_
  repeat' (conv => whnf
           first
           | (((with_reducible refine AllocSt.mk ?_); intro p _hp _hpO))
           | (with_reducible refine NextSt.mk ?_)
           | ((with_reducible apply StoreSt.box); (· (repeat (exact Upd.hd))); (· rfl); (· rfl); (· rfl)))
  refine LoopSt.fix [6, 7, 11, 12, 13, 14, 15, 16, 17, 18, 19, 20, 21, 22, 23, 24, 25, 26, 27, 28, 29, 30, 31, 32, 33, 34, 35, 36, 37, 38, 39, 40, 41, 42, 43, 44, 45, 46, 47, 48, 49, 50, 51] (fun (k : Nat) => [(11, iN k)]) (fun k => (p, .cells ⟨[uN (sumG F (l.take k))]⟩ 108 (0, 0)) :: O) (fun k => k ≤ l.length) (fun k => l.length - k) (0) _ (Wk.refl _ _) (rfl) ?_ ?_ ?_
  · repeat' (first | exact True.intro | refine And.intro ?_ ?_ | rfl)
  · exact Nat.zero_le _
  · intro k d2 hk
    by_cases hkl : k < l.length
    · have hst := sumG_take (F := F) hkl
      have hok1 := hok _ (getD_mem (d := default) hkl)
      have hs0 : sumG F (l.take k) < 18446744073709551616 := foldl_lt hF ((l.take k).flatMap eBs) 14695981039346656037 (by decide)
      generalize sumG F (l.take k) = s0 at *
      obtain ⟨⟨eo, en, eb⟩, hx⟩ : ∃ x, x = l.getD k default := ⟨_, rfl⟩
      rw [← hx] at hst hok1
      obtain ⟨ho1, ho2, hn1, hn2, hb⟩ := hok1
      simp only at ho1 ho2 hn1 hn2 hb
      obtain ⟨eo, rfl⟩ := nat_of ho1
      obtain ⟨en, rfl⟩ := nat_of hn1
      have l1 := hF s0 eo
      have l2 := hF (F s0 eo) en
      have l3 := hF (F (F s0 eo) en) (eb.length % 256)
      repeat' (conv => whnf
               first
               | (((with_reducible apply LoadSt.rdg (g := enV) (s := 3)); (· rfl); (· (repeat (first | with_reducible assumption | with_reducible apply Rd.cons))); (· exact fun _ => rfl); (· decide); (· (omega))); rw [← hx])
               | (((with_reducible apply CallSt.loc (f := 157) (H := [(p, .cells ⟨[uN (s0)]⟩ 108 (0, 0))])); (· (repeat (first | with_reducible exact Loc.one | with_reducible apply Loc.tl | with_reducible apply Loc.skip))); (· exact f157 p (s0) (eo) hs0 (by omega) _); rintro _ _ ⟨rfl, rfl⟩))
               | (((with_reducible apply CallSt.loc (f := 157) (H := [(p, .cells ⟨[uN (F s0 eo)]⟩ 108 (0, 0))])); (· (repeat (first | with_reducible exact Loc.hd | with_reducible apply Loc.tl | with_reducible apply Loc.skip))); (· exact f157 p (F s0 eo) (en) l1 (by omega) _); rintro _ _ ⟨rfl, rfl⟩))
               | (((with_reducible apply CallSt.loc (f := 157) (H := [(p, .cells ⟨[uN (F (F s0 eo) en)]⟩ 108 (0, 0))])); (· (repeat (first | with_reducible exact Loc.hd | with_reducible apply Loc.tl | with_reducible apply Loc.skip))); (· exact f157 p (F (F s0 eo) en) (eb.length % 256) l2 (by omega) _); rintro _ _ ⟨rfl, rfl⟩))
               | (((with_reducible apply CallSt.loc (f := 157) (H := [(p, .cells ⟨[uN (F (F (F s0 eo) en) (eb.length % 256))]⟩ 108 (0, 0))])); (· (repeat (first | with_reducible exact Loc.hd | with_reducible apply Loc.tl))); (· exact f157 p (F (F (F s0 eo) en) (eb.length % 256)) (eb.length / 256 % 256) l3 (by omega) _); rintro _ _ ⟨rfl, rfl⟩))
               | ((with_reducible apply IdxSl.rdg (g := enV) (s := 3)); (· with_reducible assumption); (· exact fun _ => rfl); (· decide); (· rfl); (· with_reducible rfl); (· (omega)); · (omega))
               | (with_reducible refine NextSt.mk ?_)
               | (with_reducible refine OnBB.tt ?_)
               | ((with_reducible apply NW.u8N); (· with_reducible rfl); (· omega))
               | ((with_reducible apply NW.u8wN); (· with_reducible rfl))
               | ((with_reducible apply Cmp.yes); · omega)
               | ((with_reducible apply LoadSt.box); · (repeat (exact List.Mem.head _)))
               | ((with_reducible refine AllocSt.mk ?_); intro _b _hb _hbO)
               | ((with_reducible apply StoreSt.box); (· (repeat (exact Upd.hd))); (· rfl); (· rfl); (· rfl))
               | ((with_reducible apply ShSt.shrN); (· with_reducible rfl); (· exact natL _); (· (simp only [IntKind.bits]; omega))))
      have hst2 : sumG F (l.take (k + 1)) = (nb eb).foldl F (F (F (F (F s0 eo) en) (eb.length % 256)) (eb.length / 256 % 256)) := by
        rw [hst]; simp only [eBs, List.cons_append, List.nil_append, List.foldl_cons, Int.toNat_natCast]
      have l4 : F (F (F (F s0 eo) en) (eb.length % 256)) (eb.length / 256 % 256) < 18446744073709551616 := hF _ _
      generalize F (F (F (F s0 eo) en) (eb.length % 256)) (eb.length / 256 % 256) = s4 at *
      refine LoopSt.fix [7, 41, 42, 43, 44, 45, 46, 47, 48, 49, 50] (fun (j : Nat) => [(41, iN j)]) (fun j => (_b, .cells ⟨[.int .i64 eo, .int .i64 en, sV eb]⟩ 70 (0, 0)) :: (p, .cells ⟨[uN (((nb eb).take j).foldl F s4)]⟩ 108 (0, 0)) :: O) (fun j => j ≤ eb.length) (fun j => eb.length - j) (0) _ (Wk.refl _ _) (rfl) ?_ ?_ ?_
      · repeat' (first | exact True.intro | refine And.intro ?_ ?_ | rfl)
      · exact Nat.zero_le _
      · intro j d3 hj
        have hjs := foldl_lt hF ((nb eb).take j) s4 l4
        by_cases hjl : j < eb.length
        · have hjl2 : j < (nb eb).length := by rw [nb, List.length_map]; exact hjl
          have hbj : (nb eb).getD j 0 < 256 := nb_byt _ _ (getD_mem (d := 0) hjl2)
          have hstj : ((nb eb).take (j + 1)).foldl F s4 = F (((nb eb).take j).foldl F s4) ((nb eb).getD j 0) := by
            rw [take_succ (d := 0) hjl2, List.foldl_append]; rfl
          generalize ((nb eb).take j).foldl F s4 = sj at *
          repeat' (conv => whnf
                   first
                   | (((with_reducible apply CallSt.loc (f := 157) (H := [(p, .cells ⟨[uN (sj)]⟩ 108 (0, 0))])); (· (repeat (first | with_reducible exact Loc.one | with_reducible apply Loc.tl))); (· exact f157 p (sj) ((nb eb).getD j 0) hjs hbj _); rintro _ _ ⟨rfl, rfl⟩))
                   | (with_reducible refine NextSt.mk ?_)
                   | (with_reducible refine OnBB.tt ?_)
                   | ((with_reducible apply NW.addN); (· with_reducible rfl); (· exact natL _); (· omega))
                   | ((with_reducible apply LoadSt.box); · (repeat (exact List.Mem.head _)))
                   | ((with_reducible apply StrIdx.m); (· with_reducible rfl); · omega)
                   | ((with_reducible apply Cmp.yes); · (dsimp only; omega)))
          rw [← hstj]
          refine RoundFix.mk (j + 1) ?_ ?_ _ rfl (Wk.drop (by (try dsimp only); (try simp only [List.cons_append, List.nil_append]); (repeat (with_reducible exact List.Sublist.refl _)))) ?_
          · omega
          · repeat' (first | exact True.intro | refine And.intro ?_ ?_ | rfl)
          · omega
        · rw [List.take_of_length_le (by rw [nb, List.length_map]; omega), ← hst2]
          repeat' (conv => whnf
                   first
                   | (with_reducible refine NextSt.mk ?_)
                   | (with_reducible refine OnBB.ff ?_)
                   | ((with_reducible apply NW.addN); (· with_reducible rfl); (· exact natL _); (· omega))
                   | ((with_reducible apply Cmp.no); · (dsimp only; omega)))
          refine RoundFix.mk (k + 1) ?_ ?_ _ rfl (Wk.drop (by (try dsimp only); (try simp only [List.cons_append, List.nil_append]); (repeat (first | with_reducible exact List.Sublist.refl _ | with_reducible apply List.Sublist.cons)))) ?_
          · omega
          · repeat' (first | exact True.intro | refine And.intro ?_ ?_ | rfl)
          · omega
    · have : k = l.length := by omega
      subst this
      rw [List.take_length]
      repeat' (conv => whnf
               first
               | (with_reducible refine NextSt.mk ?_)
               | (with_reducible refine OnBB.ff ?_)
               | ((with_reducible apply Cmp.no); · omega)
               | ((with_reducible apply LoadSt.box); · (repeat (exact List.Mem.head _))))
      conv => whnf
      refine FinSt.ret (by (try dsimp only); (try simp only [List.cons_append, List.nil_append]); (repeat (first | with_reducible exact List.Sublist.refl _ | with_reducible apply List.Sublist.cons))) ?_
      rfl
/-- A log's sum. -/
def sumL (l : List En) : Nat := sumG fs1 l
theorem f117 (l : List En) (a : Option Addr) (c : Nat) (hl : l.length ≤ 1000) (hok : ∀ e ∈ l, enOk e) (h : View) (O : Hp) (hr : Rd h O a (l.flatMap enV)) :
    GSpec Try.prog 117 [.slice a l.length c] h O (Ret O (uN (sumL l))) := f117G fs1 fs1_lt (fun p s b hs hb h => f157 p s b hs hb h) l a c hl hok h O hr
end Go.Proofs.Ytlbmlimaobkhpaa
/- The laws' helpers: ints; a book's number of offices. -/
namespace Go.Proofs.Ytlbmlimaobkhpaa
open Go Go.Gv
set_option maxRecDepth 100000
set_option maxHeartbeats 4000000
set_option linter.unusedSimpArgs false
set_option linter.unusedVariables false
theorem f85 (l m : List Int) (a1 a2 : Option Addr) (c1 c2 : Nat) (hl : l.length ≤ 9223372036854775807) (hm : m.length ≤ 9223372036854775807) (h : View) (O : Hp) (h1 : Rd h O a1 (l.map zV)) (h2 : Rd h O a2 (m.map zV)) :
    GSpec Try.prog 85 [.slice a1 l.length c1, .slice a2 m.length c2] h O (Ret O (.bool (decide (l = m)))) := by
  by_cases hlen : l.length = m.length
  · refine GSpec.enter (fn := Try.f85) Try.func85 rfl (by kernel_rfl) ?_
    repeat' (conv => whnf
             first
             | (with_reducible refine NextSt.mk ?_)
             | (with_reducible refine OnBB.ff ?_)
             | ((with_reducible apply Cmp.no); · omega))
    refine LoopSt.fix [4, 5, 11, 12, 13, 14, 15, 16, 17, 18, 19, 20, 21, 22, 23, 24, 25] (fun (k : Nat) => [(5, iN k)]) (fun _ => _) (fun k => k ≤ l.length ∧ l.take k = m.take k) (fun k => l.length - k) (0) _ (Wk.refl _ _) (rfl) ?_ ?_ ?_
    · repeat' (first | exact True.intro | refine And.intro ?_ ?_ | rfl)
    · exact ⟨Nat.zero_le _, rfl⟩
    · intro k d2 hkk
      obtain ⟨hk, hkt⟩ := hkk
      by_cases hkl : k < l.length
      · have hkm : k < m.length := by omega
        by_cases he : l.getD k default = m.getD k default
        · repeat' (conv => whnf
                   first
                   | (((with_reducible apply LoadSt.rdm (g := zV) (xs := l)); (· exact h1); (· omega)); unfold zV)
                   | (((with_reducible apply LoadSt.rdm (g := zV) (xs := m)); (· exact h2); (· omega)); unfold zV)
                   | ((with_reducible refine DrawSt.walk [0, 1, 2, 3, 4, 5, 6, 7, 8] mixed ?_ ?_); · decide +kernel)
                   | (with_reducible refine NextSt.mk ?_)
                   | (with_reducible refine OnBB.tt ?_)
                   | (with_reducible refine OnBB.ff ?_)
                   | ((with_reducible apply NW.addN); (· with_reducible rfl); (· exact natL _); (· omega))
                   | ((with_reducible apply Cmp.yes); · omega)
                   | ((with_reducible apply Cmp.no); · omega)
                   | ((with_reducible apply IdxSl.rd1); (· with_reducible assumption); (· rfl); (· with_reducible rfl); (· (omega)); · ((simp only [List.length_map, List.length_append, List.length_cons, List.length_nil, List.length_take, List.length_drop, List.length_replicate, List.length_set] at *; omega))))
          refine RoundFix.mk (k + 1) ?_ ?_ _ rfl (Wk.drop (by (try dsimp only); (try simp only [List.cons_append, List.nil_append]); (repeat (with_reducible exact List.Sublist.refl _)))) ?_
          · omega
          · repeat' (first | exact True.intro | refine And.intro ?_ ?_ | rfl)
          · exact ⟨by omega, by rw [take_succ (d := default) hkl, take_succ (d := default) hkm, hkt, he]⟩
        · rw [decide_eq_false (fun e => he (by rw [e]))]
          repeat' (conv => whnf
                   first
                   | (((with_reducible apply LoadSt.rdm (g := zV) (xs := l)); (· exact h1); (· omega)); unfold zV)
                   | (((with_reducible apply LoadSt.rdm (g := zV) (xs := m)); (· exact h2); (· omega)); unfold zV)
                   | ((with_reducible refine DrawSt.walk [0, 1, 2, 3, 4, 5, 6, 7, 8] mixed ?_ ?_); · decide +kernel)
                   | (with_reducible refine NextSt.mk ?_)
                   | (with_reducible refine OnBB.tt ?_)
                   | ((with_reducible apply Cmp.yes); · omega)
                   | ((with_reducible apply IdxSl.rd1); (· with_reducible assumption); (· rfl); (· with_reducible rfl); (· (omega)); · ((simp only [List.length_map, List.length_append, List.length_cons, List.length_nil, List.length_take, List.length_drop, List.length_replicate, List.length_set] at *; omega))))
          conv => whnf
          refine FinSt.ret (by (try dsimp only); (try simp only [List.cons_append, List.nil_append]); (repeat (with_reducible exact List.Sublist.refl _))) ?_
          rfl
      · rw [decide_eq_true (by rw [List.take_of_length_le (by omega), List.take_of_length_le (by omega)] at hkt; exact hkt)]
        repeat' (conv => whnf
                 first
                 | (with_reducible refine NextSt.mk ?_)
                 | (with_reducible refine OnBB.ff ?_)
                 | ((with_reducible apply Cmp.no); · omega))
        conv => whnf
        refine FinSt.ret (by (try dsimp only); (try simp only [List.cons_append, List.nil_append]); (repeat (with_reducible exact List.Sublist.refl _))) ?_
        rfl
  · rw [decide_eq_false (fun e => hlen (by rw [e]))]
    refine GSpec.enter (fn := Try.f85) Try.func85 rfl (by kernel_rfl) ?_
    repeat' (conv => whnf
             first
             | (with_reducible refine NextSt.mk ?_)
             | (with_reducible refine OnBB.tt ?_)
             | ((with_reducible apply Cmp.yes); · omega))
    conv => whnf
    refine FinSt.ret (by (try dsimp only); (try simp only [List.cons_append, List.nil_append]); (repeat (with_reducible exact List.Sublist.refl _))) ?_
    rfl
theorem f113 (r : Dr) (d : Dk) (b : Br) (k : Bk) (hk : bOk r d b k) (h : View) : GSpec Try.prog 113 [pP b.p] h (bH r d b k) (Ret (bH r d b k) (iN k.logs.length)) := by
  have hl : k.logs.length = b.ls.length := by rw [← hk.logs, logs_len]
  rw [hl]
  unfold bH
  refine GSpec.enter (fn := Try.f113) Try.func113 rfl (by kernel_rfl) ?_
  repeat' (conv => whnf
           first
           | (with_reducible refine NextSt.mk ?_)
           | ((with_reducible apply LoadSt.box); · (repeat (first | exact List.Mem.head _ | with_reducible apply List.mem_append_right))))
  conv => whnf
  refine FinSt.ret (by (try dsimp only); (try simp only [List.cons_append, List.nil_append]); (repeat (with_reducible exact List.Sublist.refl _))) ?_
  rfl
end Go.Proofs.Ytlbmlimaobkhpaa
/- The laws' helpers: tallies. -/
namespace Go.Proofs.Ytlbmlimaobkhpaa
open Go Go.Gv
set_option maxRecDepth 100000
set_option maxHeartbeats 4000000
set_option linter.unusedSimpArgs false
set_option linter.unusedVariables false
structure Ty where
  a : Option Addr
  c : Nat
  ns : List Int
  b : Option Addr
  e : Nat
  us : List Nat
def tyV (t : Ty) : List Value := [.slice t.a t.ns.length t.c, .slice t.b t.us.length t.e]
structure tyR (h : View) (O : Hp) (t : Ty) : Prop where
  ns : Rd h O t.a (t.ns.map zV)
  us : Rd h O t.b (t.us.map uN)
  l1 : t.ns.length ≤ 9223372036854775807
  l2 : t.us.length ≤ 9223372036854775807
theorem f112 (s t : Ty) (h : View) (O : Hp) (hs : tyR h O s) (ht : tyR h O t) : GSpec Try.prog 112 [.agg ⟨tyV s⟩, .agg ⟨tyV t⟩] h O (Ret O (.bool (decide (s.ns = t.ns ∧ s.us = t.us)))) := by
  obtain ⟨a1, c1, n1, b1, e1, u1⟩ := s
  obtain ⟨a2, c2, n2, b2, e2, u2⟩ := t
  obtain ⟨hn1, hu1, hl1, hm1⟩ := hs
  obtain ⟨hn2, hu2, hl2, hm2⟩ := ht
  simp only at hn1 hu1 hl1 hm1 hn2 hu2 hl2 hm2
  show GSpec Try.prog 112 [.agg ⟨[.slice a1 n1.length c1, .slice b1 u1.length e1]⟩, .agg ⟨[.slice a2 n2.length c2, .slice b2 u2.length e2]⟩] h O (Ret O (.bool (decide (n1 = n2 ∧ u1 = u2))))
  by_cases hn : n1 = n2
  · by_cases hlen : u1.length = u2.length
    · have e85 := fun O g1 g2 => f85 n1 n2 a1 a2 c1 c2 hl1 hl2 h O g1 g2
      rw [decide_eq_true hn] at e85
      refine GSpec.enter (fn := Try.f112) Try.func112 rfl (by kernel_rfl) ?_
      repeat' (conv => whnf
               first
               | (((with_reducible refine CallSt.rd (f := 85) (X := .bool true) ?_ ?_); (· exact e85 _ (by (repeat (first | with_reducible assumption | with_reducible apply Rd.cons))) (by (repeat (first | with_reducible assumption | with_reducible apply Rd.cons))))))
               | (with_reducible refine NextSt.mk ?_)
               | (with_reducible refine OnBB.tt ?_)
               | (with_reducible refine OnBB.ff ?_)
               | ((with_reducible apply Cmp.no); · omega)
               | ((with_reducible apply LoadSt.box); · (repeat (first | exact List.Mem.head _ | with_reducible apply List.mem_cons_of_mem)))
               | ((with_reducible refine AllocSt.mk ?_); intro _b _hb _hbO))
      refine LoopSt.fix [4, 5, 21, 22, 23, 24, 25, 26, 27, 28, 29, 30, 31, 32, 33, 34, 35, 36, 37, 38] (fun (k : Nat) => [(5, iN k)]) (fun _ => _) (fun k => k ≤ u1.length ∧ u1.take k = u2.take k) (fun k => u1.length - k) (0) _ (Wk.refl _ _) (rfl) ?_ ?_ ?_
      · repeat' (first | exact True.intro | refine And.intro ?_ ?_ | rfl)
      · exact ⟨Nat.zero_le _, rfl⟩
      · intro k d2 hkk
        obtain ⟨hk, hkt⟩ := hkk
        by_cases hkl : k < u1.length
        · have hkm : k < u2.length := by omega
          by_cases he : u1.getD k default = u2.getD k default
          · repeat' (conv => whnf
                     first
                     | (((with_reducible apply LoadSt.rdm (g := uN) (xs := u1)); (· (repeat (first | with_reducible assumption | with_reducible apply Rd.cons))); (· omega)); unfold uN)
                     | (((with_reducible apply LoadSt.rdm (g := uN) (xs := u2)); (· (repeat (first | with_reducible assumption | with_reducible apply Rd.cons))); (· omega)); unfold uN)
                     | ((with_reducible refine DrawSt.walk [0, 1, 2, 3, 4, 5, 6, 7, 8, 9, 10] mixed ?_ ?_); · decide +kernel)
                     | (with_reducible refine NextSt.mk ?_)
                     | (with_reducible refine OnBB.tt ?_)
                     | (with_reducible refine OnBB.ff ?_)
                     | ((with_reducible apply NW.addN); (· with_reducible rfl); (· exact natL _); (· omega))
                     | ((with_reducible apply Cmp.yes); · omega)
                     | ((with_reducible apply Cmp.no); · omega)
                     | ((with_reducible apply LoadSt.box); · (repeat (first | exact List.Mem.head _ | with_reducible apply List.mem_cons_of_mem)))
                     | ((with_reducible apply IdxSl.rd1); (· with_reducible assumption); (· rfl); (· with_reducible rfl); (· (omega)); · ((simp only [List.length_map, List.length_append, List.length_cons, List.length_nil, List.length_take, List.length_drop, List.length_replicate, List.length_set] at *; omega))))
            refine RoundFix.mk (k + 1) ?_ ?_ _ rfl (Wk.drop (by (try dsimp only); (try simp only [List.cons_append, List.nil_append]); (repeat (with_reducible exact List.Sublist.refl _)))) ?_
            · omega
            · repeat' (first | exact True.intro | refine And.intro ?_ ?_ | rfl)
            · exact ⟨by omega, by rw [take_succ (d := default) hkl, take_succ (d := default) hkm, hkt, he]⟩
          · rw [decide_eq_false (fun e => he (by rw [e.2]))]
            repeat' (conv => whnf
                     first
                     | (((with_reducible apply LoadSt.rdm (g := uN) (xs := u1)); (· (repeat (first | with_reducible assumption | with_reducible apply Rd.cons))); (· omega)); unfold uN)
                     | (((with_reducible apply LoadSt.rdm (g := uN) (xs := u2)); (· (repeat (first | with_reducible assumption | with_reducible apply Rd.cons))); (· omega)); unfold uN)
                     | ((with_reducible refine DrawSt.walk [0, 1, 2, 3, 4, 5, 6, 7, 8, 9, 10] mixed ?_ ?_); · decide +kernel)
                     | (with_reducible refine NextSt.mk ?_)
                     | (with_reducible refine OnBB.tt ?_)
                     | ((with_reducible apply Cmp.yes); · omega)
                     | ((with_reducible apply LoadSt.box); · (repeat (first | exact List.Mem.head _ | with_reducible apply List.mem_cons_of_mem)))
                     | ((with_reducible apply IdxSl.rd1); (· with_reducible assumption); (· rfl); (· with_reducible rfl); (· (omega)); · ((simp only [List.length_map, List.length_append, List.length_cons, List.length_nil, List.length_take, List.length_drop, List.length_replicate, List.length_set] at *; omega))))
            conv => whnf
            refine FinSt.ret (by (try dsimp only); (try simp only [List.cons_append, List.nil_append]); (repeat (first | with_reducible exact List.Sublist.refl _ | with_reducible apply List.Sublist.cons))) ?_
            rfl
        · rw [decide_eq_true ⟨hn, by rw [List.take_of_length_le (by omega), List.take_of_length_le (by omega)] at hkt; exact hkt⟩]
          repeat' (conv => whnf
                   first
                   | (with_reducible refine NextSt.mk ?_)
                   | (with_reducible refine OnBB.ff ?_)
                   | ((with_reducible apply Cmp.no); · omega)
                   | ((with_reducible apply LoadSt.box); · (repeat (first | exact List.Mem.head _ | with_reducible apply List.mem_cons_of_mem))))
          conv => whnf
          refine FinSt.ret (by (try dsimp only); (try simp only [List.cons_append, List.nil_append]); (repeat (first | with_reducible exact List.Sublist.refl _ | with_reducible apply List.Sublist.cons))) ?_
          rfl
    · have e85 := fun O g1 g2 => f85 n1 n2 a1 a2 c1 c2 hl1 hl2 h O g1 g2
      rw [decide_eq_true hn] at e85
      rw [decide_eq_false (fun e => hlen (by rw [e.2]))]
      refine GSpec.enter (fn := Try.f112) Try.func112 rfl (by kernel_rfl) ?_
      repeat' (conv => whnf
               first
               | (((with_reducible refine CallSt.rd (f := 85) (X := .bool true) ?_ ?_); (· exact e85 _ (by (repeat (first | with_reducible assumption | with_reducible apply Rd.cons))) (by (repeat (first | with_reducible assumption | with_reducible apply Rd.cons))))))
               | (with_reducible refine NextSt.mk ?_)
               | (with_reducible refine OnBB.tt ?_)
               | (with_reducible refine OnBB.ff ?_)
               | ((with_reducible apply Cmp.yes); · omega)
               | ((with_reducible apply LoadSt.box); · (repeat (first | exact List.Mem.head _ | with_reducible apply List.mem_cons_of_mem)))
               | ((with_reducible refine AllocSt.mk ?_); intro _b _hb _hbO))
      conv => whnf
      refine FinSt.ret (by (try dsimp only); (try simp only [List.cons_append, List.nil_append]); (repeat (first | with_reducible exact List.Sublist.refl _ | with_reducible apply List.Sublist.cons))) ?_
      rfl
  · have e85 := fun O g1 g2 => f85 n1 n2 a1 a2 c1 c2 hl1 hl2 h O g1 g2
    rw [decide_eq_false hn] at e85
    rw [decide_eq_false (fun e => hn e.1)]
    refine GSpec.enter (fn := Try.f112) Try.func112 rfl (by kernel_rfl) ?_
    repeat' (conv => whnf
             first
             | (((with_reducible refine CallSt.rd (f := 85) (X := .bool false) ?_ ?_); (· exact e85 _ (by (repeat (first | with_reducible assumption | with_reducible apply Rd.cons))) (by (repeat (first | with_reducible assumption | with_reducible apply Rd.cons))))))
             | (with_reducible refine NextSt.mk ?_)
             | (with_reducible refine OnBB.tt ?_)
             | (with_reducible refine OnBB.ff ?_)
             | ((with_reducible apply LoadSt.box); · (repeat (first | exact List.Mem.head _ | with_reducible apply List.mem_cons_of_mem)))
             | ((with_reducible refine AllocSt.mk ?_); intro _b _hb _hbO))
    conv => whnf
    refine FinSt.ret (by (try dsimp only); (try simp only [List.cons_append, List.nil_append]); (repeat (first | with_reducible exact List.Sublist.refl _ | with_reducible apply List.Sublist.cons))) ?_
    rfl
end Go.Proofs.Ytlbmlimaobkhpaa
/- The laws' helpers: made: a disk and a book on it. -/
namespace Go.Proofs.Ytlbmlimaobkhpaa
open Go Go.Gv
set_option maxRecDepth 100000
set_option maxHeartbeats 4000000
set_option linter.unusedSimpArgs false
set_option linter.unusedVariables false
end Go.Proofs.Ytlbmlimaobkhpaa
/- A book's tally: the program's. -/
namespace Go.Proofs.Ytlbmlimaobkhpaa
open Go Go.Gv
set_option maxRecDepth 100000
set_option maxHeartbeats 4000000
set_option linter.unusedSimpArgs false
set_option linter.unusedVariables false
def TyR (ls : List (List En)) (v : Value) (H : Hp) : Prop := ∃ A B : Buf, v = .agg ⟨[.slice A.a ls.length A.cap, .slice B.a ls.length B.cap]⟩ ∧ H = A.hp 3 ((ls.map fun q => (q.length : Int)).map zV) ++ B.hp 108 ((ls.map sumL).map uN) ∧
  A.ok 1 ((ls.map fun q => (q.length : Int)).map zV) ls.length ∧ B.ok 1 ((ls.map sumL).map uN) ls.length
theorem f59 (r : Dr) (b : Br) (S : DB) (hw : wfL S.2.logs) (hk : bOk r S.1 b S.2) (h : View) : GSpec Try.prog 59 [pP b.p] h (bH r S.1 b S.2) (New (bH r S.1 b S.2) (TyR S.2.logs)) := by
  have hlg := hk.logs
  have hlen := logs_len b
  have hwb : wfL b.logs := by rw [hlg]; exact hw
  have hb8 := hwb.len
  refine GSpec.enter (fn := Try.f59) Try.func59 rfl (by kernel_rfl) ?_
  repeat' (conv => whnf
           first
           | (with_reducible refine NextSt.mk ?_)
           | ((with_reducible apply LoadSt.box); · (repeat (first | exact List.Mem.head _ | with_reducible apply List.mem_append_right | with_reducible apply List.mem_cons_of_mem)))
           | ((with_reducible refine AllocSt.mk ?_); intro _b _hb _hbO))
  refine LoopSt.fix [4, 10, 11, 12, 13, 14, 15, 16, 17, 18, 19, 20, 21, 22, 23, 24, 25, 26, 27, 28] (fun ((k, A, B) : Nat × Buf × Buf) => [(10, iN k)]) (fun (k, A, B) => (_b, .cells ⟨[.slice A.a k A.cap, .slice B.a k B.cap]⟩ 81 (0, 0)) :: (A.hp 3 (((b.logs.take k).map fun q => (q.length : Int)).map zV) ++ (B.hp 108 (((b.logs.take k).map sumL).map uN) ++ bH r S.1 b S.2))) (fun (k, A, B) => k ≤ b.ls.length ∧ A.ok 1 (((b.logs.take k).map fun q => (q.length : Int)).map zV) k ∧ B.ok 1 (((b.logs.take k).map sumL).map uN) k) (fun (k, A, B) => b.ls.length - k) ((0, Buf.nil, Buf.nil)) _ (Wk.refl _ _) (rfl) ?_ ?_ ?_
  · repeat' (first | exact True.intro | refine And.intro ?_ ?_ | rfl)
  · exact ⟨Nat.zero_le _, Buf.nil_ok 1, Buf.nil_ok 1⟩
  · rintro ⟨k, A, B⟩ d2 ⟨hk2, hA, hB⟩
    dsimp only at hk2 hA hB ⊢
    by_cases hkl : k < b.ls.length
    · have hlk := logs_get hkl
      have hkl2 : k < b.logs.length := by omega
      have hl64 := hwb.log k hkl2
      have henk := hwb.en k hkl2
      rw [hlk] at hl64 henk
      have hen : ∀ e ∈ (b.ls.getD k default).2, enOk e := fun e he => by
        obtain ⟨i, hi, rfl⟩ := List.getElem_of_mem he
        have := (henk i hi).1
        rwa [List.getD_eq_getElem?_getD, List.getElem?_eq_getElem hi] at this
      have hrd := lgHp_rd (w := h) hk.ls hkl
      repeat' (conv => whnf
               first
               | (((with_reducible apply LoadSt.ownd (g := slV)); (· (repeat (first | exact List.Mem.head _ | with_reducible apply List.mem_append_right | with_reducible apply List.mem_cons_of_mem))); (· (exact Nat.zero_add _)); (· (omega))); unfold slV)
               | (((with_reducible apply AppSt.lit1 (g := zV) (x := ((b.ls.getD k default).2.length : Int)) (z := .int .i64 0)); (· (repeat (first | with_reducible exact Loc.hd | with_reducible apply Loc.tl | with_reducible apply Loc.skip))); (· exact hA); (· (repeat (exact List.Mem.head _))); (· rfl); (· rfl); (· rfl); (· rfl); (· rfl); (· rfl); (· (show _ * 8 ≤ _; omega)); (· omega); intro A' hA'))
               | (((with_reducible refine CallG.rd (f := 117) (X := uN (sumL (b.ls.getD k default).2)) ?_ ?_); (· exact f117 (b.ls.getD k default).2 _ _ (by omega) hen _ _ (by (repeat (first | with_reducible assumption | with_reducible apply Rd.cons | with_reducible apply Rd.appR))))))
               | (((with_reducible apply AppSt.lit1 (g := uN) (x := sumL (b.ls.getD k default).2) (z := .int .u64 0)); (· (repeat (first | with_reducible exact Loc.hd | with_reducible apply Loc.tl | with_reducible apply Loc.skip))); (· exact hB); (· (repeat (exact List.Mem.head _))); (· rfl); (· rfl); (· rfl); (· rfl); (· rfl); (· rfl); (· (show _ * 8 ≤ _; omega)); (· omega); intro B' hB'))
               | ((with_reducible refine DrawSt.walk [0, 1, 2, 3, 4, 5, 6, 7] mixed ?_ ?_); · decide +kernel)
               | (with_reducible refine NextSt.mk ?_)
               | (with_reducible refine OnBB.tt ?_)
               | ((with_reducible apply NW.addN); (· with_reducible rfl); (· exact natL _); (· omega))
               | ((with_reducible apply Cmp.yes); · omega)
               | ((with_reducible apply LoadSt.box); · (repeat (first | exact List.Mem.head _ | with_reducible apply List.mem_cons_of_mem)))
               | ((with_reducible refine AllocSt.mk ?_); intro _b _hb _hbO)
               | ((with_reducible apply StoreSt.box); (· (repeat (first | exact Upd.hd | apply Upd.tl))); (· rfl); (· rfl); (· rfl))
               | ((with_reducible apply IdxSl.own1); (· rfl); (· with_reducible rfl); · (omega)))
      have e1 : (b.logs.take k).map (fun q => (q.length : Int)) ++ [((b.ls.getD k default).2.length : Int)] = (b.logs.take (k + 1)).map (fun q => (q.length : Int)) := by rw [take_succ (d := []) hkl2, List.map_append, hlk]; rfl
      have e2 : (b.logs.take k).map sumL ++ [sumL (b.ls.getD k default).2] = (b.logs.take (k + 1)).map sumL := by rw [take_succ (d := []) hkl2, List.map_append, hlk]; rfl
      rw [e1] at hA' ⊢
      rw [e2] at hB' ⊢
      refine RoundFix.mk ((k + 1, A', B')) ?_ ?_ _ rfl (Wk.drop (by (try dsimp only); (try simp only [List.cons_append, List.nil_append]); (repeat (first | with_reducible exact List.Sublist.refl _ | with_reducible apply List.Sublist.cons)))) ?_
      · dsimp only; omega
      · repeat' (first | exact True.intro | refine And.intro ?_ ?_ | rfl)
      · exact ⟨by omega, hA', hB'⟩
    · have : k = b.ls.length := by omega
      subst this
      rw [List.take_of_length_le (by omega)] at hA hB ⊢
      rw [← hlen, hlg] at hA hB ⊢
      repeat' (conv => whnf
               first
               | (with_reducible refine NextSt.mk ?_)
               | (with_reducible refine OnBB.ff ?_)
               | ((with_reducible apply Cmp.no); · omega)
               | ((with_reducible apply LoadSt.boxAgg); · (repeat (exact List.Mem.head _)))
               | ((with_reducible apply StoreSt.box); (· (repeat (exact Upd.hd))); (· rfl); (· rfl); (· rfl)))
      exact FinSt.new (H := A.hp 3 ((S.2.logs.map fun q => (q.length : Int)).map zV) ++ B.hp 108 ((S.2.logs.map sumL).map uN)) (R := TyR S.2.logs) (List.Sublist.cons _ (by rw [List.append_assoc]; exact List.Sublist.refl _)) ⟨A, B, rfl, rfl, hA, hB⟩
end Go.Proofs.Ytlbmlimaobkhpaa
/- The laws' helpers: equal books. -/
namespace Go.Proofs.Ytlbmlimaobkhpaa
open Go Go.Gv
set_option maxRecDepth 100000
set_option maxHeartbeats 4000000
set_option linter.unusedSimpArgs false
set_option linter.unusedVariables false
theorem flat_le : ∀ L : List (List En), (∀ q ∈ L, q.length ≤ 64) → L.flatten.length ≤ 64 * L.length
  | [], _ => Nat.le_refl _
  | q :: L, h => by
    have h1 := h q (List.Mem.head _)
    have h2 := flat_le L fun p hp => h p (List.mem_cons_of_mem _ hp)
    rw [List.flatten_cons, List.length_append, List.length_cons]; omega
theorem wfL.flat {L : List (List En)} (h : wfL L) : (∀ e ∈ L.flatten, enW e) ∧ L.flatten.length ≤ 512 := by
  constructor
  · intro e he
    obtain ⟨q, hq, he⟩ := List.mem_flatten.1 he
    obtain ⟨p, hp, rfl⟩ := List.getElem_of_mem hq
    obtain ⟨i, hi, rfl⟩ := List.getElem_of_mem he
    have e1 : L.getD p [] = L[p] := by rw [List.getD_eq_getElem?_getD, List.getElem?_eq_getElem hp]; rfl
    have := (h.en p hp i (by rw [e1]; exact hi)).1
    rw [e1, List.getD_eq_getElem?_getD, List.getElem?_eq_getElem hi] at this
    exact enOk.w this
  · have := flat_le L fun q hq => by
      obtain ⟨p, hp, rfl⟩ := List.getElem_of_mem hq
      have e1 : L.getD p [] = L[p] := by rw [List.getD_eq_getElem?_getD, List.getElem?_eq_getElem hp]; rfl
      have := h.log p hp
      rwa [e1] at this
    have := h.len
    omega
end Go.Proofs.Ytlbmlimaobkhpaa
