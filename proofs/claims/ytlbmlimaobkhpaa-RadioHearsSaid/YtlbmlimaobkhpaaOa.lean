/- The laws' functions over books. -/
import Derived.Test.YtlbmlimaobkhpaaLa
set_option linter.unusedVariables false
set_option linter.unusedSimpArgs false
set_option linter.unusedSectionVars false
/- The laws' helpers over entries: entries, few. -/
namespace Go.Proofs.Ytlbmlimaobkhpaa
open Go Go.Gv
set_option maxRecDepth 100000
set_option maxHeartbeats 4000000
set_option linter.unusedSimpArgs false
set_option linter.unusedVariables false
theorem f60 (l m : List En) (a1 a2 : Option Addr) (c1 c2 : Nat) (hl : l.length ≤ 9223372036854775807) (hm : m.length ≤ 9223372036854775807) (hlw : ∀ e ∈ l, enW e) (hmw : ∀ e ∈ m, enW e) (h : View) (O : Hp) (h1 : Rd h O a1 (l.flatMap enV)) (h2 : Rd h O a2 (m.flatMap enV)) :
    GSpec Try.prog 60 [.slice a1 l.length c1, .slice a2 m.length c2] h O (Ret O (.bool (decide (l = m)))) := by
  by_cases hlen : l.length = m.length
  · refine GSpec.enter (fn := Try.f60) Try.func60 rfl (by kernel_rfl) ?_
    repeat' (conv => whnf
             first
             | (with_reducible refine NextSt.mk ?_)
             | (with_reducible refine OnBB.ff ?_)
             | ((with_reducible apply Cmp.no); · omega))
    refine LoopSt.fix [4, 5, 11, 12, 13, 14, 15, 16, 17, 18, 19, 20, 21, 22, 23, 24, 25] (fun (k : Nat) => [(5, iN k)]) (fun _ => _) (fun k => k ≤ l.length ∧ l.take k = m.take k) (fun k => l.length - k) (0) _ (Wk.refl _ _) (rfl) ?_ ?_ ?_
    · repeat' (first | exact True.intro | refine And.intro ?_ ?_ | rfl)
    · exact ⟨Nat.zero_le _, rfl⟩
    · intro k d2 hkk
      obtain ⟨hk, hkt⟩ := hkk
      by_cases hkl : k < l.length
      · have hkm : k < m.length := by omega
        have e1 := hlw _ (getD_mem (d := default) hkl)
        have e2 := hmw _ (getD_mem (d := default) hkm)
        by_cases he : l.getD k default = m.getD k default
        · repeat' (conv => whnf
                   first
                   | ((refine eq70 e1 e2 ?_); rw [decide_eq_true he])
                   | ((with_reducible refine DrawSt.walk [0, 1, 2, 3, 4, 5, 6, 7, 8] mixed ?_ ?_); · decide +kernel)
                   | ((with_reducible apply LoadSt.rdg (g := enV) (s := 3)); (· rfl); (· (repeat (with_reducible assumption))); (· exact fun _ => rfl); (· decide); · (omega))
                   | ((with_reducible apply IdxSl.rdg (g := enV) (s := 3)); (· with_reducible assumption); (· exact fun _ => rfl); (· decide); (· rfl); (· with_reducible rfl); (· (omega)); · (omega))
                   | (with_reducible refine NextSt.mk ?_)
                   | (with_reducible refine OnBB.tt ?_)
                   | (with_reducible refine OnBB.ff ?_)
                   | ((with_reducible apply NW.addN); (· with_reducible rfl); (· exact natL _); (· omega))
                   | ((with_reducible apply Cmp.yes); · omega))
          refine RoundFix.mk (k + 1) ?_ ?_ _ rfl (Wk.drop (by (try dsimp only); (try simp only [List.cons_append, List.nil_append]); (repeat (with_reducible exact List.Sublist.refl _)))) ?_
          · omega
          · repeat' (first | exact True.intro | refine And.intro ?_ ?_ | rfl)
          · exact ⟨by omega, by rw [take_succ (d := default) hkl, take_succ (d := default) hkm, hkt, he]⟩
        · rw [decide_eq_false (fun e => he (by rw [e]))]
          repeat' (conv => whnf
                   first
                   | ((refine eq70 e1 e2 ?_); rw [decide_eq_false he])
                   | ((with_reducible refine DrawSt.walk [0, 1, 2, 3, 4, 5, 6, 7, 8] mixed ?_ ?_); · decide +kernel)
                   | ((with_reducible apply LoadSt.rdg (g := enV) (s := 3)); (· rfl); (· (repeat (with_reducible assumption))); (· exact fun _ => rfl); (· decide); · (omega))
                   | ((with_reducible apply IdxSl.rdg (g := enV) (s := 3)); (· with_reducible assumption); (· exact fun _ => rfl); (· decide); (· rfl); (· with_reducible rfl); (· (omega)); · (omega))
                   | (with_reducible refine NextSt.mk ?_)
                   | (with_reducible refine OnBB.tt ?_)
                   | ((with_reducible apply Cmp.yes); · omega))
          conv => whnf
          refine FinSt.ret (by (try dsimp only); (try simp only [List.cons_append, List.nil_append]); (repeat (with_reducible exact List.Sublist.refl _))) ?_
          rfl
      · rw [decide_eq_true (by rw [List.take_of_length_le (by omega), List.take_of_length_le (by omega)] at hkt; exact hkt)]
        repeat' (conv => whnf
                 first
                 | (with_reducible refine NextSt.mk ?_)
                 | (with_reducible refine OnBB.ff ?_)
                 | ((with_reducible apply Cmp.no); · omega))
        conv => whnf
        refine FinSt.ret (by (try dsimp only); (try simp only [List.cons_append, List.nil_append]); (repeat (with_reducible exact List.Sublist.refl _))) ?_
        rfl
  · rw [decide_eq_false (fun e => hlen (by rw [e]))]
    refine GSpec.enter (fn := Try.f60) Try.func60 rfl (by kernel_rfl) ?_
    repeat' (conv => whnf
             first
             | (with_reducible refine NextSt.mk ?_)
             | (with_reducible refine OnBB.tt ?_)
             | ((with_reducible apply Cmp.yes); · omega))
    conv => whnf
    refine FinSt.ret (by (try dsimp only); (try simp only [List.cons_append, List.nil_append]); (repeat (with_reducible exact List.Sublist.refl _))) ?_
    rfl
/-- The laws' worlds. -/
structure Wd where
  offices : Int
  sectors : Int
  a : Option Addr
  cap : Nat
  items : List En
def Wd.few (x : Wd) : Prop := (1 ≤ x.offices ∧ x.offices ≤ 8 ∧ 1 ≤ x.sectors ∧ x.sectors ≤ 100 ∧ x.items.length ≤ 24) ∧ ∀ e ∈ x.items, e.body.length ≤ 1100
instance (x : Wd) : Decidable x.few := by unfold Wd.few; infer_instance
end Go.Proofs.Ytlbmlimaobkhpaa
/- The laws' helpers: pick. -/
namespace Go.Proofs.Ytlbmlimaobkhpaa
open Go Go.Gv
set_option maxRecDepth 100000
set_option maxHeartbeats 4000000
set_option linter.unusedSimpArgs false
set_option linter.unusedVariables false
def zV (n : Int) : Value := .int .i64 n
end Go.Proofs.Ytlbmlimaobkhpaa
/- A log's sum: the program's. -/
namespace Go.Proofs.Ytlbmlimaobkhpaa
open Go Go.Gv
set_option maxRecDepth 100000
set_option maxHeartbeats 4000000
set_option linter.unusedSimpArgs false
set_option linter.unusedVariables false
def uN (n : Nat) : Value := .int .u64 (n : Nat)
/-- One byte into a sum. -/
def fs1 (h b : Nat) : Nat := (h ^^^ b) * 1099511628211 % 18446744073709551616
theorem fs1_lt (h b : Nat) : fs1 h b < 18446744073709551616 := Nat.mod_lt _ (by decide)
def cell8 (p h : Nat) : Hp := [(p, .cells ⟨[uN h]⟩ 108 (0, 0))]
theorem f157 (p s b : Nat) (hs : s < 18446744073709551616) (hb : b < 256) (h : View) : GSpec Try.prog 157 [bN b, .pointer (some ⟨p, 0, none⟩)] h (cell8 p s) (fun v _ O' => v = noV ∧ O' = cell8 p (fs1 s b)) := by
  have hx : s ^^^ b < 18446744073709551616 := Nat.xor_lt_two_pow (n := 64) hs (Nat.lt_trans hb (by decide))
  have e : IntKind.u64.wrap (((s ^^^ b : Nat) : Int) * 1099511628211) = ((fs1 s b : Nat) : Int) := by
    rw [IntKind.wrap_u64]
    unfold fs1
    omega
  have e2 : IntKind.u64.wrap (((natOp BinOp.xor ((s : Nat) : Int).toNat ((b : Nat) : Int).toNat : Nat) : Int) * 1099511628211) = ((fs1 s b : Nat) : Int) := e
  unfold cell8
  refine GSpec.enter (fn := Try.f157) Try.func157 rfl (by kernel_rfl) ?_
  repeat' (conv => whnf
           first
           | ((refine NW.u64w ?_); rw [e2])
           | (with_reducible refine NextSt.mk ?_)
           | ((with_reducible apply NW.u64N); (· with_reducible rfl); (· omega))
           | ((with_reducible apply LoadSt.box); · (repeat (exact List.Mem.head _)))
           | ((with_reducible apply StoreSt.box); (· (repeat (exact Upd.hd))); (· rfl); (· rfl); (· rfl))
           | ((with_reducible apply Bits.u64); (· simp); · omega))
  exact FinSt.own (R := fun v O' => v = noV ∧ O' = [(p, .cells ⟨[uN (fs1 s b)]⟩ 108 (0, 0))]) (List.Sublist.refl _) ⟨rfl, rfl⟩
def eBs (e : En) : List Nat := [e.office.toNat, e.no.toNat, e.body.length % 256, e.body.length / 256 % 256] ++ nb e.body
def sumG (F : Nat → Nat → Nat) (l : List En) : Nat := (l.flatMap eBs).foldl F 14695981039346656037
theorem foldl_lt {F : Nat → Nat → Nat} (hF : ∀ s b, F s b < 18446744073709551616) : ∀ (l : List Nat) (s : Nat), s < 18446744073709551616 → l.foldl F s < 18446744073709551616
  | [], _, h => h
  | b :: l, s, _ => foldl_lt hF l (F s b) (hF s b)
theorem sumG_take {F : Nat → Nat → Nat} {l : List En} {k : Nat} (h : k < l.length) : sumG F (l.take (k + 1)) = (eBs (l.getD k default)).foldl F (sumG F (l.take k)) := by
  unfold sumG
  rw [take_succ (d := default) h, List.flatMap_append, List.flatMap_singleton, List.foldl_append]
theorem f117G (F : Nat → Nat → Nat) (hF : ∀ s b, F s b < 18446744073709551616) (f157 : ∀ (p s b : Nat), s < 18446744073709551616 → b < 256 → ∀ h, GSpec Try.prog 157 [bN b, .pointer (some ⟨p, 0, none⟩)] h [(p, .cells ⟨[uN s]⟩ 108 (0, 0))] (fun v _ O' => v = noV ∧ O' = [(p, .cells ⟨[uN (F s b)]⟩ 108 (0, 0))])) (l : List En) (a : Option Addr) (c : Nat) (hl : l.length ≤ 1000) (hok : ∀ e ∈ l, enOk e) (h : View) (O : Hp) (hr : Rd h O a (l.flatMap enV)) :
    GSpec Try.prog 117 [.slice a l.length c] h O (Ret O (uN (sumG F l))) := by
  refine GSpec.enter (fn := Try.f117) Try.func117 rfl (by kernel_rfl) ?_
  repeat' (conv => whnf
           first
           | (((with_reducible refine AllocSt.mk ?_); intro p _hp _hpO))
           | (with_reducible refine NextSt.mk ?_)
           | ((with_reducible apply StoreSt.box); (· (repeat (exact Upd.hd))); (· rfl); (· rfl); (· rfl)))
  refine LoopSt.fix [6, 7, 11, 12, 13, 14, 15, 16, 17, 18, 19, 20, 21, 22, 23, 24, 25, 26, 27, 28, 29, 30, 31, 32, 33, 34, 35, 36, 37, 38, 39, 40, 41, 42, 43, 44, 45, 46, 47, 48, 49, 50, 51] (fun (k : Nat) => [(11, iN k)]) (fun k => (p, .cells ⟨[uN (sumG F (l.take k))]⟩ 108 (0, 0)) :: O) (fun k => k ≤ l.length) (fun k => l.length - k) (0) _ (Wk.refl _ _) (rfl) ?_ ?_ ?_
  · repeat' (first | exact True.intro | refine And.intro ?_ ?_ | rfl)
  · exact Nat.zero_le _
  · intro k d2 hk
    by_cases hkl : k < l.length
    · have hst := sumG_take (F := F) hkl
      have hok1 := hok _ (getD_mem (d := default) hkl)
      have hs0 : sumG F (l.take k) < 18446744073709551616 := foldl_lt hF ((l.take k).flatMap eBs) 14695981039346656037 (by decide)
      generalize sumG F (l.take k) = s0 at *
      obtain ⟨⟨eo, en, eb⟩, hx⟩ : ∃ x, x = l.getD k default := ⟨_, rfl⟩
      rw [← hx] at hst hok1
      obtain ⟨ho1, ho2, hn1, hn2, hb⟩ := hok1
      simp only at ho1 ho2 hn1 hn2 hb
      obtain ⟨eo, rfl⟩ := nat_of ho1
      obtain ⟨en, rfl⟩ := nat_of hn1
      have l1 := hF s0 eo
      have l2 := hF (F s0 eo) en
      have l3 := hF (F (F s0 eo) en) (eb.length % 256)
      repeat' (conv => whnf
               first
               | (((with_reducible apply LoadSt.rdg (g := enV) (s := 3)); (· rfl); (· (repeat (first | with_reducible assumption | with_reducible apply Rd.cons))); (· exact fun _ => rfl); (· decide); (· (omega))); rw [← hx])
               | (((with_reducible apply CallSt.loc (f := 157) (H := [(p, .cells ⟨[uN (s0)]⟩ 108 (0, 0))])); (· (repeat (first | with_reducible exact Loc.one | with_reducible apply Loc.tl | with_reducible apply Loc.skip))); (· exact f157 p (s0) (eo) hs0 (by omega) _); rintro _ _ ⟨rfl, rfl⟩))
               | (((with_reducible apply CallSt.loc (f := 157) (H := [(p, .cells ⟨[uN (F s0 eo)]⟩ 108 (0, 0))])); (· (repeat (first | with_reducible exact Loc.hd | with_reducible apply Loc.tl | with_reducible apply Loc.skip))); (· exact f157 p (F s0 eo) (en) l1 (by omega) _); rintro _ _ ⟨rfl, rfl⟩))
               | (((with_reducible apply CallSt.loc (f := 157) (H := [(p, .cells ⟨[uN (F (F s0 eo) en)]⟩ 108 (0, 0))])); (· (repeat (first | with_reducible exact Loc.hd | with_reducible apply Loc.tl | with_reducible apply Loc.skip))); (· exact f157 p (F (F s0 eo) en) (eb.length % 256) l2 (by omega) _); rintro _ _ ⟨rfl, rfl⟩))
               | (((with_reducible apply CallSt.loc (f := 157) (H := [(p, .cells ⟨[uN (F (F (F s0 eo) en) (eb.length % 256))]⟩ 108 (0, 0))])); (· (repeat (first | with_reducible exact Loc.hd | with_reducible apply Loc.tl))); (· exact f157 p (F (F (F s0 eo) en) (eb.length % 256)) (eb.length / 256 % 256) l3 (by omega) _); rintro _ _ ⟨rfl, rfl⟩))
               | ((with_reducible apply IdxSl.rdg (g := enV) (s := 3)); (· with_reducible assumption); (· exact fun _ => rfl); (· decide); (· rfl); (· with_reducible rfl); (· (omega)); · (omega))
               | (with_reducible refine NextSt.mk ?_)
               | (with_reducible refine OnBB.tt ?_)
               | ((with_reducible apply NW.u8N); (· with_reducible rfl); (· omega))
               | ((with_reducible apply NW.u8wN); (· with_reducible rfl))
               | ((with_reducible apply Cmp.yes); · omega)
               | ((with_reducible apply LoadSt.box); · (repeat (exact List.Mem.head _)))
               | ((with_reducible refine AllocSt.mk ?_); intro _b _hb _hbO)
               | ((with_reducible apply StoreSt.box); (· (repeat (exact Upd.hd))); (· rfl); (· rfl); (· rfl))
               | ((with_reducible apply ShSt.shrN); (· with_reducible rfl); (· exact natL _); (· (simp only [IntKind.bits]; omega))))
      have hst2 : sumG F (l.take (k + 1)) = (nb eb).foldl F (F (F (F (F s0 eo) en) (eb.length % 256)) (eb.length / 256 % 256)) := by
        rw [hst]; simp only [eBs, List.cons_append, List.nil_append, List.foldl_cons, Int.toNat_natCast]
      have l4 : F (F (F (F s0 eo) en) (eb.length % 256)) (eb.length / 256 % 256) < 18446744073709551616 := hF _ _
      generalize F (F (F (F s0 eo) en) (eb.length % 256)) (eb.length / 256 % 256) = s4 at *
      refine LoopSt.fix [7, 41, 42, 43, 44, 45, 46, 47, 48, 49, 50] (fun (j : Nat) => [(41, iN j)]) (fun j => (_b, .cells ⟨[.int .i64 eo, .int .i64 en, sV eb]⟩ 70 (0, 0)) :: (p, .cells ⟨[uN (((nb eb).take j).foldl F s4)]⟩ 108 (0, 0)) :: O) (fun j => j ≤ eb.length) (fun j => eb.length - j) (0) _ (Wk.refl _ _) (rfl) ?_ ?_ ?_
      · repeat' (first | exact True.intro | refine And.intro ?_ ?_ | rfl)
      · exact Nat.zero_le _
      · intro j d3 hj
        have hjs := foldl_lt hF ((nb eb).take j) s4 l4
        by_cases hjl : j < eb.length
        · have hjl2 : j < (nb eb).length := by rw [nb, List.length_map]; exact hjl
          have hbj : (nb eb).getD j 0 < 256 := nb_byt _ _ (getD_mem (d := 0) hjl2)
          have hstj : ((nb eb).take (j + 1)).foldl F s4 = F (((nb eb).take j).foldl F s4) ((nb eb).getD j 0) := by
            rw [take_succ (d := 0) hjl2, List.foldl_append]; rfl
          generalize ((nb eb).take j).foldl F s4 = sj at *
          repeat' (conv => whnf
                   first
                   | (((with_reducible apply CallSt.loc (f := 157) (H := [(p, .cells ⟨[uN (sj)]⟩ 108 (0, 0))])); (· (repeat (first | with_reducible exact Loc.one | with_reducible apply Loc.tl))); (· exact f157 p (sj) ((nb eb).getD j 0) hjs hbj _); rintro _ _ ⟨rfl, rfl⟩))
                   | (with_reducible refine NextSt.mk ?_)
                   | (with_reducible refine OnBB.tt ?_)
                   | ((with_reducible apply NW.addN); (· with_reducible rfl); (· exact natL _); (· omega))
                   | ((with_reducible apply LoadSt.box); · (repeat (exact List.Mem.head _)))
                   | ((with_reducible apply StrIdx.m); (· with_reducible rfl); · omega)
                   | ((with_reducible apply Cmp.yes); · (dsimp only; omega)))
          rw [← hstj]
          refine RoundFix.mk (j + 1) ?_ ?_ _ rfl (Wk.drop (by (try dsimp only); (try simp only [List.cons_append, List.nil_append]); (repeat (with_reducible exact List.Sublist.refl _)))) ?_
          · omega
          · repeat' (first | exact True.intro | refine And.intro ?_ ?_ | rfl)
          · omega
        · rw [List.take_of_length_le (by rw [nb, List.length_map]; omega), ← hst2]
          repeat' (conv => whnf
                   first
                   | (with_reducible refine NextSt.mk ?_)
                   | (with_reducible refine OnBB.ff ?_)
                   | ((with_reducible apply NW.addN); (· with_reducible rfl); (· exact natL _); (· omega))
                   | ((with_reducible apply Cmp.no); · (dsimp only; omega)))
          refine RoundFix.mk (k + 1) ?_ ?_ _ rfl (Wk.drop (by (try dsimp only); (try simp only [List.cons_append, List.nil_append]); (repeat (first | with_reducible exact List.Sublist.refl _ | with_reducible apply List.Sublist.cons)))) ?_
          · omega
          · repeat' (first | exact True.intro | refine And.intro ?_ ?_ | rfl)
          · omega
    · have : k = l.length := by omega
      subst this
      rw [List.take_length]
      repeat' (conv => whnf
               first
               | (with_reducible refine NextSt.mk ?_)
               | (with_reducible refine OnBB.ff ?_)
               | ((with_reducible apply Cmp.no); · omega)
               | ((with_reducible apply LoadSt.box); · (repeat (exact List.Mem.head _))))
      conv => whnf
      refine FinSt.ret (by (try dsimp only); (try simp only [List.cons_append, List.nil_append]); (repeat (first | with_reducible exact List.Sublist.refl _ | with_reducible apply List.Sublist.cons))) ?_
      rfl
/-- A log's sum. -/
def sumL (l : List En) : Nat := sumG fs1 l
theorem f117 (l : List En) (a : Option Addr) (c : Nat) (hl : l.length ≤ 1000) (hok : ∀ e ∈ l, enOk e) (h : View) (O : Hp) (hr : Rd h O a (l.flatMap enV)) :
    GSpec Try.prog 117 [.slice a l.length c] h O (Ret O (uN (sumL l))) := f117G fs1 fs1_lt (fun p s b hs hb h => f157 p s b hs hb h) l a c hl hok h O hr
end Go.Proofs.Ytlbmlimaobkhpaa
/- The laws' helpers: ints; a book's number of offices. -/
namespace Go.Proofs.Ytlbmlimaobkhpaa
open Go Go.Gv
set_option maxRecDepth 100000
set_option maxHeartbeats 4000000
set_option linter.unusedSimpArgs false
set_option linter.unusedVariables false
end Go.Proofs.Ytlbmlimaobkhpaa
/- The laws' helpers: tallies. -/
namespace Go.Proofs.Ytlbmlimaobkhpaa
open Go Go.Gv
set_option maxRecDepth 100000
set_option maxHeartbeats 4000000
set_option linter.unusedSimpArgs false
set_option linter.unusedVariables false
structure Ty where
  a : Option Addr
  c : Nat
  ns : List Int
  b : Option Addr
  e : Nat
  us : List Nat
structure tyR (h : View) (O : Hp) (t : Ty) : Prop where
  ns : Rd h O t.a (t.ns.map zV)
  us : Rd h O t.b (t.us.map uN)
  l1 : t.ns.length ≤ 9223372036854775807
  l2 : t.us.length ≤ 9223372036854775807
end Go.Proofs.Ytlbmlimaobkhpaa
/- The laws' helpers: made: a disk and a book on it. -/
namespace Go.Proofs.Ytlbmlimaobkhpaa
open Go Go.Gv
set_option maxRecDepth 100000
set_option maxHeartbeats 4000000
set_option linter.unusedSimpArgs false
set_option linter.unusedVariables false
end Go.Proofs.Ytlbmlimaobkhpaa
/- A book's tally: the program's. -/
namespace Go.Proofs.Ytlbmlimaobkhpaa
open Go Go.Gv
set_option maxRecDepth 100000
set_option maxHeartbeats 4000000
set_option linter.unusedSimpArgs false
set_option linter.unusedVariables false
end Go.Proofs.Ytlbmlimaobkhpaa
/- The laws' helpers: equal books. -/
namespace Go.Proofs.Ytlbmlimaobkhpaa
open Go Go.Gv
set_option maxRecDepth 100000
set_option maxHeartbeats 4000000
set_option linter.unusedSimpArgs false
set_option linter.unusedVariables false
end Go.Proofs.Ytlbmlimaobkhpaa
