/- RadioDisks: the disks of the program and of the reference, the walk, what the arguments read as. -/
import Derived.Test.YtlbmlimaobkhpaaRd
import Derived.Test.YtlbmlimaobkhpaaEa
import Derived.Test.YtlbmlimaobkhpaaLa
import Derived.Test.YtlbmlimaobkhpaaGc
import Derived.Test.YtlbmlimaobkhpaaPa
set_option linter.unusedVariables false
set_option linter.unusedSimpArgs false
set_option linter.unusedSectionVars false
/- The reference's disks: writing, settling, reading. -/
namespace Go.Proofs.Ytlbmlimaobkhpaa
open Go Go.Gv
set_option maxRecDepth 100000
set_option maxHeartbeats 4000000
set_option linter.unusedSimpArgs false
set_option linter.unusedVariables false

def eHp (r : Dr) (d : Dk) : Hp :=
  (r.p, .cells ⟨[.slice r.sb.a d.safe.length r.sb.cap, .slice r.wb.a d.waits.length r.wb.cap, .bool !d.off, iN d.armed, iN d.falls]⟩ 145 (0, 0)) ::
    (r.sb.hp 9 (d.safe.map sV) ++ r.wb.hp 151 (d.waits.flatMap wV))
/-- What a call leaves of a disk of the reference. -/
def ER (r : Dr) (d : Dk) (X : Value) (v : Value) (O' : Hp) : Prop := ∃ r', r'.p = r.p ∧ O' = eHp r' d ∧ dOk r' d ∧ v = X

theorem f102 (n : Nat) (hn : n ≤ 1000000) (h : View) (O : Hp) : GSpec Try.prog 102 [.int .i64 (n : Nat)] h O (Ret O (sV (List.replicate n 0))) := by
  refine GSpec.enter (fn := Try.f102) Try.func102 rfl (by kernel_rfl) ?_
  repeat' (conv => whnf
           first
           | (refine ToStr.bytes (l := List.replicate n 0) (Rd.own0 (List.Mem.head _)) (byt.rep n) (List.length_replicate ..) ?_)
           | (with_reducible refine NextSt.mk ?_)
           | ((with_reducible apply MakeSt.bN); (· rfl); (· rfl); (· with_reducible rfl); (· with_reducible rfl); (· (show 1 * _ ≤ _; omega)); (· omega); intro _b _hb _hbO))
  refine FinSt.ret (List.Sublist.cons _ (List.Sublist.refl _)) ?_
  show sV _ = sV _
  simp only [List.map_replicate]; rfl
theorem f50 (r : Dr) (d : Dk) (h : View) : GSpec Try.prog 50 [dP r] h (eHp r d) (Ret (eHp r d) (iN d.safe.length)) := by
  unfold eHp
  refine GSpec.enter (fn := Try.f50) Try.func50 rfl (by kernel_rfl) ?_
  repeat' (conv => whnf
           first
           | (with_reducible refine NextSt.mk ?_)
           | ((with_reducible apply LoadSt.box); · (repeat (exact List.Mem.head _))))
  conv => whnf
  refine FinSt.ret (by (try dsimp only); (try simp only [List.cons_append, List.nil_append]); (repeat (with_reducible exact List.Sublist.refl _))) ?_
  rfl
theorem f48 (r : Dr) (d : Dk) (h : View) : GSpec Try.prog 48 [dP r] h (eHp r d) (Ret (eHp r d) (.bool !d.off)) := by
  unfold eHp
  refine GSpec.enter (fn := Try.f48) Try.func48 rfl (by kernel_rfl) ?_
  repeat' (conv => whnf
           first
           | (with_reducible refine NextSt.mk ?_)
           | ((with_reducible apply LoadSt.box); · (repeat (exact List.Mem.head _))))
  conv => whnf
  refine FinSt.ret (by (try dsimp only); (try simp only [List.cons_append, List.nil_append]); (repeat (with_reducible exact List.Sublist.refl _))) ?_
  rfl
theorem f105 (r : Dr) (d : Dk) (ho : d.off = false) (hd : d.falls < 1000000000) (ha : d.armed ≤ 9223372036854775807) (hk : dOk r d) (h : View) : GSpec Try.prog 105 [dP r] h (eHp r d) (fun v _ O' => ER r d.strike.1 (.bool d.strike.2) v O') := by
  by_cases h0 : d.armed = 0
  · have e : d.strike = (d, false) := if_pos h0
    rw [e]
    obtain ⟨safe, waits, off, armed, falls⟩ := d
    simp only at h0 ho
    subst h0 ho
    simp only [eHp]
    refine GSpec.enter (fn := Try.f105) Try.func105 rfl (by kernel_rfl) ?_
    repeat' (conv => whnf
             first
             | (with_reducible refine NextSt.mk ?_)
             | (with_reducible refine OnBB.tt ?_)
             | ((with_reducible apply Cmp.yes); · omega)
             | ((with_reducible apply LoadSt.box); · (repeat (exact List.Mem.head _))))
    exact FinSt.own (R := fun v O' => ER r _ _ v O') (List.Sublist.refl _) ⟨r, rfl, rfl, hk, rfl⟩
  · by_cases h1 : d.armed = 1
    · have e : d.strike = (d.fall, true) := by rw [Dk.strike, if_neg h0, if_pos h1]
      rw [e]
      obtain ⟨safe, waits, off, armed, falls⟩ := d
      simp only at h1 hd ho
      subst h1 ho
      simp only [eHp]
      refine GSpec.enter (fn := Try.f105) Try.func105 rfl (by kernel_rfl) ?_
      repeat' (conv => whnf
               first
               | (with_reducible refine NextSt.mk ?_)
               | (with_reducible refine OnBB.ff ?_)
               | ((with_reducible apply NW.addN); (· with_reducible rfl); (· exact natL _); (· omega))
               | ((with_reducible apply NW.subN); (· with_reducible rfl); (· exact natL _); (· omega))
               | ((with_reducible apply Cmp.no); · omega)
               | ((with_reducible apply LoadSt.box); · (repeat (exact List.Mem.head _)))
               | ((with_reducible apply StoreSt.box); (· (repeat (exact Upd.hd))); (· rfl); (· rfl); (· rfl)))
      exact FinSt.own (R := fun v O' => ER r _ _ v O') (List.Sublist.refl _) ⟨r, rfl, rfl, ⟨hk.sb, hk.wb⟩, rfl⟩
    · have e : d.strike = ({ d with armed := d.armed - 1 }, false) := by rw [Dk.strike, if_neg h0, if_neg h1]
      rw [e]
      obtain ⟨safe, waits, off, armed, falls⟩ := d
      simp only at h0 h1 ha ho
      subst ho
      simp only [eHp]
      refine GSpec.enter (fn := Try.f105) Try.func105 rfl (by kernel_rfl) ?_
      repeat' (conv => whnf
               first
               | (with_reducible refine NextSt.mk ?_)
               | (with_reducible refine OnBB.tt ?_)
               | (with_reducible refine OnBB.ff ?_)
               | ((with_reducible apply NW.subN); (· with_reducible rfl); (· exact natL _); (· omega))
               | ((with_reducible apply Cmp.yes); · omega)
               | ((with_reducible apply Cmp.no); · omega)
               | ((with_reducible apply LoadSt.box); · (repeat (exact List.Mem.head _)))
               | ((with_reducible apply StoreSt.box); (· (repeat (exact Upd.hd))); (· rfl); (· rfl); (· rfl)))
      exact FinSt.own (R := fun v O' => ER r _ _ v O') (List.Sublist.refl _) ⟨r, rfl, rfl, ⟨hk.sb, hk.wb⟩, rfl⟩
theorem f44 (r : Dr) (d : Dk) (n : Int) (hn : -9223372036854775808 ≤ n ∧ n ≤ 9223372036854775807) (hk : dOk r d) (h : View) : GSpec Try.prog 44 [dP r, .int .i64 n] h (eHp r d) (fun v _ O' => ER r (d.arm n) noV v O') := by
  obtain ⟨safe, waits, off, armed, falls⟩ := d
  by_cases hp : 0 < n
  · obtain ⟨n, rfl⟩ := nat_of (show 0 ≤ n by omega)
    simp only [eHp]
    refine GSpec.enter (fn := Try.f44) Try.func44 rfl (by kernel_rfl) ?_
    repeat' (conv => whnf
             first
             | (with_reducible refine NextSt.mk ?_)
             | (with_reducible refine OnBB.tt ?_)
             | ((with_reducible apply Cmp.yes); · omega)
             | ((with_reducible apply StoreSt.box); (· (repeat (exact Upd.hd))); (· rfl); (· rfl); (· rfl)))
    exact FinSt.own (R := fun v O' => ER r (Dk.arm _ n) noV v O') (List.Sublist.refl _) ⟨r, rfl, rfl, ⟨hk.sb, hk.wb⟩, rfl⟩
  · have e : Dk.arm ⟨safe, waits, off, armed, falls⟩ n = ⟨safe, waits, off, 0, falls⟩ := by simp only [Dk.arm]; congr 1; omega
    rw [e]
    simp only [eHp]
    refine GSpec.enter (fn := Try.f44) Try.func44 rfl (by kernel_rfl) ?_
    repeat' (conv => whnf
             first
             | (with_reducible refine NextSt.mk ?_)
             | (with_reducible refine OnBB.ff ?_)
             | ((with_reducible apply Cmp.no); · omega)
             | ((with_reducible apply StoreSt.box); (· (repeat (exact Upd.hd))); (· rfl); (· rfl); (· rfl)))
    exact FinSt.own (R := fun v O' => ER r _ noV v O') (List.Sublist.refl _) ⟨r, rfl, rfl, ⟨hk.sb, hk.wb⟩, rfl⟩
theorem f38 (r : Dr) (d : Dk) (a : Int) (s : Str) (hd : d.ok) (hsl : s.length ≤ 9223372036854775807) (hk : dOk r d) (h : View) : GSpec Try.prog 38 [dP r, .int .i64 a, sV s] h (eHp r d) (fun v _ O' => ER r (d.write a s).1 (.int .i64 (d.write a s).2) v O') := by
  have hf1 := hd.few.1
  have hf2 := hd.few.2
  have hfa := hd.armed
  have hsz := hd.size
  by_cases he : d.err a = 0
  · obtain ⟨ho, a1, a2⟩ := err_ok he
    obtain ⟨a, rfl⟩ := nat_of a1
    by_cases hs : s.length = 64
    · have e : d.write a s = ((Dk.strike { d with waits := d.waits ++ [(a, s)] }).1, if (Dk.strike { d with waits := d.waits ++ [(a, s)] }).2 then 93 else 0) := by
        simp only [Dk.write, he, hs, ne_eq, not_true_eq_false, if_false, Int.toNat_natCast]
      rw [e]
      cases h2 : (Dk.strike { d with waits := d.waits ++ [(a, s)] }).2
      all_goals
        have e104 := fun r' hk' => f105 r' { d with waits := d.waits ++ [(a, s)] } ho hf2 hfa hk' h
        have hlen : (d.waits ++ [(a, s)]).length = d.waits.length + 1 := by simp
        simp only [Bool.false_eq_true, if_false, if_true]
        unfold eHp
        rw [ho] at e104 h2 ⊢
        rw [Bool.not_false]
        refine GSpec.enter (fn := Try.f38) Try.func38 rfl (by kernel_rfl) ?_
        repeat' (conv => whnf
                 first
                 | ((with_reducible apply AppSt.litm (g := wV) (x := (a, s)) (s := 2) (z := .agg ⟨[.int .i64 0, .string ⟨⟨[]⟩⟩]⟩)); (· (repeat (first | with_reducible exact Loc.last | with_reducible apply Loc.tl | with_reducible apply Loc.skip))); (· exact hk.wb); (· (repeat (exact List.Mem.head _))); (· rfl); (· rfl); (· rfl); (· rfl); (· rfl); (· rfl); (· rfl); (· (show _ * 24 ≤ _; omega)); (· omega); intro wb' hwb'; rw [← hlen] at hwb' ⊢)
                 | ((with_reducible apply CallSt.loc (f := 105) (H := eHp ⟨r.p, r.sb, wb'⟩ { d with waits := d.waits ++ [(a, s)], off := false }) (R := ER ⟨r.p, r.sb, wb'⟩ (Dk.strike { d with waits := d.waits ++ [(a, s)], off := false }).1 (.bool (Dk.strike { d with waits := d.waits ++ [(a, s)], off := false }).2))); (· (unfold eHp; exact Loc.tl Loc.last)); (· exact e104 ⟨r.p, r.sb, wb'⟩ ⟨hk.sb, hwb'⟩); rintro _ _ ⟨r2, hp2, rfl, hk2, rfl⟩; rw [h2])
                 | (with_reducible refine NextSt.mk ?_)
                 | (with_reducible refine OnBB.tt ?_)
                 | (with_reducible refine OnBB.ff ?_)
                 | ((with_reducible apply Cmp.no); · omega)
                 | ((with_reducible apply LoadSt.box); · (repeat (exact List.Mem.head _)))
                 | ((with_reducible refine AllocSt.mk ?_); intro _b _hb _hbO)
                 | ((with_reducible apply StoreSt.box); (· (repeat (first | exact Upd.hd | apply Upd.tl))); (· rfl); (· rfl); (· rfl)))
        exact FinSt.own (R := fun v O' => ER r _ _ v O') (by (try dsimp only); (try simp only [List.cons_append, List.nil_append]); (repeat (first | with_reducible exact List.Sublist.refl _ | with_reducible apply List.Sublist.cons))) ⟨r2, hp2, rfl, hk2, rfl⟩
    · have e : d.write a s = (d, 1) := by simp only [Dk.write, he, hs, ne_eq, not_true_eq_false, not_false_eq_true, if_false, if_true]
      rw [e]
      unfold eHp
      rw [ho, Bool.not_false]
      refine GSpec.enter (fn := Try.f38) Try.func38 rfl (by kernel_rfl) ?_
      repeat' (conv => whnf
               first
               | (with_reducible refine NextSt.mk ?_)
               | (with_reducible refine OnBB.tt ?_)
               | (with_reducible refine OnBB.ff ?_)
               | ((with_reducible apply Cmp.yes); · omega)
               | ((with_reducible apply Cmp.no); · omega)
               | ((with_reducible apply LoadSt.box); · (repeat (exact List.Mem.head _))))
      refine FinSt.own (R := fun v O' => ER r _ _ v O') (List.Sublist.refl _) ⟨r, rfl, ?_, hk, rfl⟩
      unfold eHp
      rw [ho, Bool.not_false]
  · have e : d.write a s = (d, d.err a) := by simp only [Dk.write, ne_eq, he, not_false_eq_true, if_true]
    rw [e]
    cases ho : d.off
    · have hr : ¬ (0 ≤ a ∧ a < d.safe.length) := fun hr => he (by rw [Dk.err, ho]; simp [hr])
      rw [show d.err a = 1 from by rw [Dk.err, ho]; simp [hr]]
      unfold eHp
      rw [ho, Bool.not_false]
      refine GSpec.enter (fn := Try.f38) Try.func38 rfl (by kernel_rfl) ?_
      repeat' (conv => whnf
               first
               | (with_reducible refine NextSt.mk ?_)
               | (with_reducible refine OnBB.tt ?_)
               | (with_reducible refine OnBB.ff ?_)
               | ((with_reducible apply Cmp.yes); · omega)
               | ((with_reducible apply LoadSt.box); · (repeat (exact List.Mem.head _)))
               | ((with_reducible refine Cmp.mk ?_ ?_) <;> intro _hc))
      all_goals refine FinSt.own (R := fun v O' => ER r _ _ v O') (List.Sublist.refl _) ⟨r, rfl, ?_, hk, rfl⟩
      all_goals unfold eHp
      all_goals rw [ho, Bool.not_false]
    · rw [show d.err a = 93 from by rw [Dk.err, ho]; rfl]
      unfold eHp
      rw [ho, Bool.not_true]
      refine GSpec.enter (fn := Try.f38) Try.func38 rfl (by kernel_rfl) ?_
      repeat' (conv => whnf
               first
               | (with_reducible refine NextSt.mk ?_)
               | (with_reducible refine OnBB.tt ?_)
               | (with_reducible refine OnBB.ff ?_)
               | ((with_reducible apply LoadSt.box); · (repeat (exact List.Mem.head _))))
      refine FinSt.own (R := fun v O' => ER r _ _ v O') (List.Sublist.refl _) ⟨r, rfl, ?_, hk, rfl⟩
      unfold eHp
      rw [ho, Bool.not_true]
theorem f107 (r : Dr) (d : Dk) (a : Nat) (ha : a < d.safe.length) (hz : d.safe.length ≤ 4096) (hf1 : d.waits.length < 1000000000) (hk : dOk r d) (h : View) : GSpec Try.prog 107 [dP r, iN a] h (eHp r d) (Ret (eHp r d) (sV (d.content a))) := by
  have hsb := hk.sb
  have hwb := hk.wb
  unfold eHp Dk.content
  refine GSpec.enter (fn := Try.f107) Try.func107 rfl (by kernel_rfl) ?_
  repeat' (conv => whnf
           first
           | (with_reducible refine NextSt.mk ?_)
           | ((with_reducible apply LoadSt.box); · (repeat (first | exact List.Mem.head _ | with_reducible apply List.mem_append_right | with_reducible apply List.mem_cons_of_mem)))
           | ((with_reducible apply LoadSt.rdS); (· (repeat (first | (with_reducible apply Rd.appL; with_reducible apply Buf.rd; with_reducible assumption) | with_reducible apply Rd.cons))); · (omega))
           | ((with_reducible apply IdxSl.buf1); (· with_reducible assumption); (· rfl); (· rfl); (· with_reducible rfl); · (omega)))
  refine LoopSt.fix [5, 6, 14, 15, 16, 17, 18, 19, 20, 21, 22, 23, 24, 25, 26, 27, 28, 29, 30, 31, 32, 33, 34, 35, 36, 37, 38, 39, 40] (fun (k : Nat) => [(5, sV (Dk.look (d.waits.take k) a (d.safe.getD a []))), (6, iN k)]) (fun _ => _) (fun k => k ≤ d.waits.length) (fun k => d.waits.length - k) (0) _ (Wk.refl _ _) (rfl) ?_ ?_ ?_
  · repeat' (first | exact True.intro | refine And.intro ?_ ?_ | rfl)
  · exact Nat.zero_le _
  · intro k d' hk2
    by_cases hkl : k < d.waits.length
    · have hlt := Dk.look_take (i := a) (s := d.safe.getD a []) hkl
      repeat' (conv => whnf
               first
               | (((with_reducible apply LoadSt.rdf (g := wV) (s := 2)); (· (repeat (first | (with_reducible apply Buf.rd; with_reducible assumption) | with_reducible apply Rd.cons | with_reducible apply Rd.appR))); (· exact fun _ => rfl); (· (omega)); (· decide)))
               | ((with_reducible apply IdxSl.bufm (s := 2)); (· with_reducible assumption); (· rfl); (· rfl); (· with_reducible rfl); · (omega))
               | (with_reducible refine NextSt.mk ?_)
               | (with_reducible refine OnBB.tt ?_)
               | (with_reducible refine OnBB.ff ?_)
               | ((with_reducible apply NW.addN); (· with_reducible rfl); (· exact natL _); (· omega))
               | ((with_reducible apply Cmp.yes); · omega)
               | ((with_reducible apply LoadSt.box); · (repeat (exact List.Mem.head _)))
               | ((with_reducible refine Cmp.mk ?_ ?_) <;> intro _hc))
      · rw [if_pos (by omega)] at hlt
        refine RoundFix.mk (k + 1) ?_ ?_ _ rfl (Wk.drop (by (try dsimp only); (try simp only [List.cons_append, List.nil_append]); (repeat (with_reducible exact List.Sublist.refl _)))) ?_
        · omega
        · repeat' (first | exact True.intro | refine And.intro ?_ ?_ | exact congrArg sV hlt.symm | rfl)
        · omega
      · rw [if_neg (by omega)] at hlt
        refine RoundFix.mk (k + 1) ?_ ?_ _ rfl (Wk.drop (by (try dsimp only); (try simp only [List.cons_append, List.nil_append]); (repeat (with_reducible exact List.Sublist.refl _)))) ?_
        · omega
        · repeat' (first | exact True.intro | refine And.intro ?_ ?_ | exact congrArg sV hlt.symm | rfl)
        · omega
    · rw [List.take_of_length_le (by omega)]
      repeat' (conv => whnf
               first
               | (with_reducible refine NextSt.mk ?_)
               | (with_reducible refine OnBB.ff ?_)
               | ((with_reducible apply Cmp.no); · omega)
               | ((with_reducible apply LoadSt.box); · (repeat (exact List.Mem.head _))))
      conv => whnf
      refine FinSt.ret (by (try dsimp only); (try simp only [List.cons_append, List.nil_append]); (repeat (with_reducible exact List.Sublist.refl _))) ?_
      rfl
theorem f42 (r : Dr) (d : Dk) (a : Int) (hd : d.ok) (hk : dOk r d) (h : View) : GSpec Try.prog 42 [dP r, .int .i64 a] h (eHp r d) (Ret (eHp r d) (strE (d.read a))) := by
  have hf1 := hd.few.1
  have hsz := hd.size
  by_cases he : d.err a = 0
  · obtain ⟨ho, a1, a2⟩ := err_ok he
    obtain ⟨a, rfl⟩ := nat_of a1
    have e107 := f107 r d a (by omega) hsz hf1 hk h
    rw [show d.read a = (d.content a, 0) from by simp only [Dk.read, he, if_true, Int.toNat_natCast]]
    unfold eHp at e107 ⊢
    rw [ho, Bool.not_false] at e107 ⊢
    refine GSpec.enter (fn := Try.f42) Try.func42 rfl (by kernel_rfl) ?_
    repeat' (conv => whnf
             first
             | ((with_reducible refine CallSt.rd (f := 107) (X := sV (d.content a)) ?_ ?_); (· exact e107))
             | (with_reducible refine NextSt.mk ?_)
             | (with_reducible refine OnBB.tt ?_)
             | (with_reducible refine OnBB.ff ?_)
             | ((with_reducible apply Cmp.no); · omega)
             | ((with_reducible apply LoadSt.box); · (repeat (exact List.Mem.head _))))
    conv => whnf
    refine FinSt.ret (by (try dsimp only); (try simp only [List.cons_append, List.nil_append]); (repeat (with_reducible exact List.Sublist.refl _))) ?_
    rfl
  · rw [show d.read a = ([], d.err a) from by simp only [Dk.read, he, if_false]]
    cases ho : d.off
    · have hr : ¬ (0 ≤ a ∧ a < d.safe.length) := fun hr => he (by rw [Dk.err, ho]; simp [hr])
      rw [show d.err a = 1 from by rw [Dk.err, ho]; simp [hr]]
      unfold eHp
      rw [ho, Bool.not_false]
      refine GSpec.enter (fn := Try.f42) Try.func42 rfl (by kernel_rfl) ?_
      repeat' (conv => whnf
               first
               | (with_reducible refine NextSt.mk ?_)
               | (with_reducible refine OnBB.tt ?_)
               | (with_reducible refine OnBB.ff ?_)
               | ((with_reducible apply Cmp.yes); · omega)
               | ((with_reducible apply LoadSt.box); · (repeat (exact List.Mem.head _)))
               | ((with_reducible refine Cmp.mk ?_ ?_) <;> intro _hc))
      all_goals (conv => whnf)
      all_goals refine FinSt.ret (by (try dsimp only); (try simp only [List.cons_append, List.nil_append]); (repeat (with_reducible exact List.Sublist.refl _))) ?_
      all_goals rfl
    · rw [show d.err a = 93 from by rw [Dk.err, ho]; rfl]
      unfold eHp
      rw [ho, Bool.not_true]
      refine GSpec.enter (fn := Try.f42) Try.func42 rfl (by kernel_rfl) ?_
      repeat' (conv => whnf
               first
               | (with_reducible refine NextSt.mk ?_)
               | (with_reducible refine OnBB.tt ?_)
               | (with_reducible refine OnBB.ff ?_)
               | ((with_reducible apply LoadSt.box); · (repeat (exact List.Mem.head _))))
      conv => whnf
      refine FinSt.ret (by (try dsimp only); (try simp only [List.cons_append, List.nil_append]); (repeat (with_reducible exact List.Sublist.refl _))) ?_
      rfl
end Go.Proofs.Ytlbmlimaobkhpaa
/- The disks' writes at any length; the reference's sync. -/
namespace Go.Proofs.Ytlbmlimaobkhpaa
open Go Go.Gv
set_option maxRecDepth 100000
set_option maxHeartbeats 4000000
set_option linter.unusedSimpArgs false
set_option linter.unusedVariables false
theorem f40 (r : Dr) (d : Dk) (hd : d.ok) (hk : dOk r d) (h : View) : GSpec Try.prog 40 [dP r] h (eHp r d) (fun v _ O' => ER r d.sync.1 (.int .i64 d.sync.2) v O') := by
  have hf1 := hd.few.1
  have hsz := hd.size
  cases ho : d.off
  · have e105 := f105 r d ho hd.few.2 hd.armed hk h
    cases h2 : d.strike.2
    · have hsw : d.strike.1.safe = d.safe ∧ d.strike.1.waits = d.waits := by
        unfold Dk.strike; split
        · exact ⟨rfl, rfl⟩
        · split <;> exact ⟨rfl, rfl⟩
      have hoff : d.strike.1.off = false := by
        unfold Dk.strike at h2 ⊢
        split at h2
        · rename_i h0; rw [if_pos h0]; exact ho
        · rename_i h0
          rw [if_neg h0]
          split at h2
          · cases h2
          · rename_i h1; rw [if_neg h1]; exact ho
      have e : d.sync = ({ d.strike.1 with safe := Dk.settle d.strike.1.safe d.strike.1.waits, waits := [] }, 0) := by simp only [Dk.sync, ho, h2, Bool.false_eq_true, if_false, hsw]
      have hl2 : ∀ w ∈ d.strike.1.waits, w.1 < d.strike.1.safe.length := by rw [hsw.1, hsw.2]; exact fun w hw => (hd.waits w hw).1
      have hl3 : d.strike.1.waits.length < 1000000000 := by rw [hsw.2]; exact hf1
      have hl4 : d.strike.1.safe.length ≤ 4096 := by rw [hsw.1]; exact hsz
      rw [e]
      generalize d.strike.1 = D at *
      have hsl := fun k => Dk.settle_len (D.waits.take k) D.safe
      unfold eHp
      rw [ho, Bool.not_false]
      refine GSpec.enter (fn := Try.f40) Try.func40 rfl (by kernel_rfl) ?_
      repeat' (conv => whnf
               first
               | ((with_reducible apply CallSt.loc (f := 105) (H := eHp r d) (R := ER r D (.bool d.strike.2))); (· (unfold eHp; rw [ho]; exact Loc.last)); (· exact e105); rintro _ _ ⟨⟨p2, sb, wb⟩, hp2, rfl, hk2, rfl⟩; rw [h2]; (obtain rfl : p2 = r.p := hp2); unfold eHp; rw [hoff, Bool.not_false])
               | (with_reducible refine NextSt.mk ?_)
               | (with_reducible refine OnBB.tt ?_)
               | (with_reducible refine OnBB.ff ?_)
               | ((with_reducible apply LoadSt.box); · (repeat (exact List.Mem.head _))))
      have hwb := hk2.wb
      refine LoopSt.fix [4, 13, 14, 15, 16, 17, 18, 19, 20, 21, 22, 23, 24, 25, 26, 27, 28, 29, 30, 31, 32, 33, 34, 35, 36, 37, 38, 39, 40, 41, 42] (fun (k : Nat) => [(4, iN k)]) (fun k => (r.p, .cells ⟨[.slice sb.a D.safe.length sb.cap, .slice wb.a D.waits.length wb.cap, .bool true, iN D.armed, iN D.falls]⟩ 145 (0, 0)) :: (sb.hp 9 ((Dk.settle D.safe (D.waits.take k)).map sV) ++ wb.hp 151 (D.waits.flatMap wV))) (fun k => k ≤ D.waits.length) (fun k => D.waits.length - k) (0) _ (Wk.refl _ _) (rfl) ?_ ?_ ?_
      · repeat' (first | exact True.intro | refine And.intro ?_ ?_ | rfl)
      · exact Nat.zero_le _
      · intro k d' hk3
        have h1 := hsl k
        have hsb : sb.ok 1 ((Dk.settle D.safe (D.waits.take k)).map sV) D.safe.length := Buf.ok_len hk2.sb (by simp [h1])
        by_cases hkl : k < D.waits.length
        · have hm := hl2 _ (getD_mem (d := default) hkl)
          repeat' (conv => whnf
                   first
                   | (((with_reducible apply LoadSt.rdf (g := wV) (s := 2)); (· (repeat (first | (with_reducible apply Buf.rd; with_reducible assumption) | with_reducible apply Rd.cons | with_reducible apply Rd.appR))); (· exact fun _ => rfl); (· (omega)); (· decide)))
                   | ((with_reducible refine DrawSt.walk [0, 1, 2, 3, 4, 5, 6, 7, 8, 9, 10, 11, 12, 13, 14, 15, 16, 17, 18, 19, 20, 21] mixed ?_ ?_); · decide +kernel)
                   | ((with_reducible apply IdxSl.bufm (s := 2)); (· with_reducible assumption); (· rfl); (· rfl); (· with_reducible rfl); · (omega))
                   | (with_reducible refine NextSt.mk ?_)
                   | (with_reducible refine OnBB.tt ?_)
                   | ((with_reducible apply NW.addN); (· with_reducible rfl); (· exact natL _); (· omega))
                   | ((with_reducible apply Cmp.yes); · omega)
                   | ((with_reducible apply LoadSt.box); · (repeat (exact List.Mem.head _)))
                   | ((with_reducible apply StoreSt.bufm); (· (repeat (first | with_reducible exact Loc.hd | with_reducible apply Loc.tl))); (· with_reducible assumption); (· (with_reducible rfl)); (· rfl); (· (omega)); (· rfl))
                   | ((with_reducible apply IdxSl.buf1); (· with_reducible assumption); (· rfl); (· rfl); (· with_reducible rfl); · (omega)))
          rw [← Dk.settle_take hkl]
          refine RoundFix.mk (k + 1) ?_ ?_ _ rfl (Wk.drop (by (try dsimp only); (try simp only [List.cons_append, List.nil_append]); (repeat (with_reducible exact List.Sublist.refl _)))) ?_
          · omega
          · repeat' (first | exact True.intro | refine And.intro ?_ ?_ | rfl)
          · omega
        · have : k = D.waits.length := by omega
          subst this
          rw [List.take_length] at hsb h1 ⊢
          repeat' (conv => whnf
                   first
                   | (with_reducible refine NextSt.mk ?_)
                   | (with_reducible refine OnBB.ff ?_)
                   | ((with_reducible apply Cmp.no); · omega)
                   | ((with_reducible apply LoadSt.box); · (repeat (exact List.Mem.head _)))
                   | ((with_reducible apply StoreSt.box); (· (repeat (exact Upd.hd))); (· rfl); (· rfl); (· rfl)))
          refine FinSt.own (R := fun v O' => ER r _ _ v O') (List.Sublist.cons_cons _ ((List.Sublist.refl _).append (List.nil_sublist _))) ⟨⟨r.p, sb, Buf.nil⟩, rfl, ?_, ⟨?_, Buf.nil_ok 2⟩, rfl⟩
          · simp only [eHp, h1, hoff]
            rfl
          · show sb.ok 1 _ _
            rw [h1]; exact hsb
    · have e : d.sync = (d.strike.1, 93) := by simp only [Dk.sync, ho, h2, Bool.false_eq_true, if_false, if_true]
      rw [e]
      unfold eHp
      rw [ho, Bool.not_false]
      refine GSpec.enter (fn := Try.f40) Try.func40 rfl (by kernel_rfl) ?_
      repeat' (conv => whnf
               first
               | ((with_reducible apply CallSt.loc (f := 105) (H := eHp r d) (R := ER r d.strike.1 (.bool d.strike.2))); (· (unfold eHp; rw [ho]; exact Loc.last)); (· exact e105); rintro _ _ ⟨r2, hp2, rfl, hk2, rfl⟩; rw [h2])
               | (with_reducible refine NextSt.mk ?_)
               | (with_reducible refine OnBB.tt ?_)
               | (with_reducible refine OnBB.ff ?_)
               | ((with_reducible apply LoadSt.box); · (repeat (exact List.Mem.head _))))
      exact FinSt.own (R := fun v O' => ER r _ _ v O') (List.Sublist.refl _) ⟨r2, hp2, rfl, hk2, rfl⟩
  · have e : d.sync = (d, 93) := by simp only [Dk.sync, ho, if_true]
    rw [e]
    unfold eHp
    rw [ho, Bool.not_true]
    refine GSpec.enter (fn := Try.f40) Try.func40 rfl (by kernel_rfl) ?_
    repeat' (conv => whnf
             first
             | (with_reducible refine NextSt.mk ?_)
             | (with_reducible refine OnBB.tt ?_)
             | (with_reducible refine OnBB.ff ?_)
             | ((with_reducible apply LoadSt.box); · (repeat (exact List.Mem.head _))))
    refine FinSt.own (R := fun v O' => ER r _ _ v O') (List.Sublist.refl _) ⟨r, rfl, ?_, hk, rfl⟩
    unfold eHp
    rw [ho, Bool.not_true]
end Go.Proofs.Ytlbmlimaobkhpaa
/- Disks after a fall: the reference and the program. -/
namespace Go.Proofs.Ytlbmlimaobkhpaa
open Go Go.Gv
set_option maxRecDepth 100000
set_option maxHeartbeats 4000000
set_option linter.unusedSimpArgs false
set_option linter.unusedVariables false
theorem nb_get (l : Str) (i : Nat) : (nb l).getD i 0 = (l.getD i 0).toNat := by
  simp only [nb, List.getD_eq_getElem?_getD, List.getElem?_map]
  cases l[i]? <;> rfl
theorem f46 (r : Dr) (d : Dk) (keep : Str) (hd : d.ok) (hkl : keep.length ≤ 9223372036854775807) (hk : dOk r d) (h : View) : GSpec Try.prog 46 [dP r, sV keep] h (eHp r d) (fun v _ O' => ER r (d.restart keep) noV v O') := by
  have hf1 := hd.few.1
  have hf2 := hd.few.2
  have hsz := hd.size
  have hwb := hk.wb
  have hlt := Dk.lastI_lt keep (min d.waits.length keep.length)
  have hz := Dk.sf_zero (d := d) (keep := keep)
  cases ho : d.off
  all_goals
    unfold eHp
    rw [ho]
    first | rw [Bool.not_false] | rw [Bool.not_true]
    refine GSpec.enter (fn := Try.f46) Try.func46 rfl (by kernel_rfl) ?_
    repeat' (conv => whnf
             first
             | (with_reducible refine NextSt.mk ?_)
             | (with_reducible refine OnBB.tt ?_)
             | (with_reducible refine OnBB.ff ?_)
             | ((with_reducible apply NW.addN); (· with_reducible rfl); (· exact natL _); (· omega))
             | ((with_reducible apply LoadSt.box); · (repeat (exact List.Mem.head _)))
             | ((with_reducible apply StoreSt.box); (· (repeat (exact Upd.hd))); (· rfl); (· rfl); (· rfl)))
    refine LoopSt.fix [4, 5, 20, 21, 22, 23, 24, 25, 26, 27, 28, 29, 30, 31, 32, 33, 34, 35, 36, 37, 38, 39] (fun (k : Nat) => [(4, .int .i64 (Dk.lastI keep k)), (5, iN k)]) (fun _ => _) (fun k => k ≤ d.waits.length ∧ k ≤ keep.length) (fun k => keep.length - k) (0) _ (Wk.refl _ _) (rfl) ?_ ?_ ?_
    · repeat' (first | exact True.intro | refine And.intro ?_ ?_ | rfl)
    · exact ⟨Nat.zero_le _, Nat.zero_le _⟩
    · intro k d' hk2
      obtain ⟨hk2, hk3⟩ := hk2
      have hkb := nb_get keep k
      by_cases h1 : k < d.waits.length ∧ k < keep.length
      · repeat' (conv => whnf
                 first
                 | (with_reducible refine NextSt.mk ?_)
                 | (with_reducible refine OnBB.tt ?_)
                 | (with_reducible refine OnBB.ff ?_)
                 | ((with_reducible apply NW.addN); (· with_reducible rfl); (· exact natL _); (· omega))
                 | ((with_reducible apply Cmp.yes); · omega)
                 | ((with_reducible apply LoadSt.box); · (repeat (exact List.Mem.head _)))
                 | ((with_reducible apply StrIdx.m); (· with_reducible rfl); · omega)
                 | ((with_reducible refine Cmp.mk ?_ ?_) <;> intro _hc))
        · have e : Dk.lastI keep (k + 1) = k := by
            rw [Dk.lastI, if_pos]
            intro e0
            rw [e0] at hkb
            have : (nb keep).getD k 0 = 0 := hkb
            omega
          refine RoundFix.mk (k + 1) ?_ ?_ _ rfl (Wk.drop (by (try dsimp only); (try simp only [List.cons_append, List.nil_append]); (repeat (with_reducible exact List.Sublist.refl _)))) ?_
          · omega
          · repeat' (first | exact True.intro | refine And.intro ?_ ?_ | exact congrArg (Value.int _) e.symm | rfl)
          · omega
        · have e : Dk.lastI keep (k + 1) = Dk.lastI keep k := by
            rw [Dk.lastI, if_neg]
            intro e0
            exact e0 (UInt8.toNat_inj.1 (by rw [← hkb]; show _ = 0; omega))
          refine RoundFix.mk (k + 1) ?_ ?_ _ rfl (Wk.drop (by (try dsimp only); (try simp only [List.cons_append, List.nil_append]); (repeat (with_reducible exact List.Sublist.refl _)))) ?_
          · omega
          · repeat' (first | exact True.intro | refine And.intro ?_ ?_ | exact congrArg (Value.int _) e.symm | rfl)
          · omega
      · have hkm : k = min d.waits.length keep.length := by omega
        rw [hkm]
        repeat' (conv => whnf
                 first
                 | (with_reducible refine NextSt.mk ?_)
                 | (with_reducible refine OnBB.tt ?_)
                 | (with_reducible refine OnBB.ff ?_)
                 | ((with_reducible apply Cmp.no); · omega)
                 | ((with_reducible apply LoadSt.box); · (repeat (exact List.Mem.head _)))
                 | ((with_reducible refine Cmp.mk ?_ ?_) <;> intro _hc))
        all_goals
          refine LoopSt.fix [6, 7, 8, 40, 41, 42, 43, 44, 45, 46, 47, 48, 49, 50, 51, 52, 53, 54, 55, 56, 57, 58, 59, 60, 61, 62, 63, 64, 65, 66, 67, 68, 69, 70, 71, 72, 73, 74, 75, 76, 77, 78, 79, 80, 81, 82, 83, 84, 85, 86, 87, 88] (fun (i : Nat) => [(6, iN i)]) (fun i => (r.p, .cells ⟨[.slice r.sb.a d.safe.length r.sb.cap, .slice r.wb.a d.waits.length r.wb.cap, .bool (!d.off), iN d.armed, iN (if d.off then d.falls else d.falls + 1)]⟩ 145 (0, 0)) :: (r.sb.hp 9 ((Dk.sf d keep (Dk.lastI keep (min d.waits.length keep.length)) i).map sV) ++ r.wb.hp 151 (d.waits.flatMap wV))) (fun i => (i : Int) ≤ Dk.lastI keep (min d.waits.length keep.length) + 1) (fun i => (Dk.lastI keep (min d.waits.length keep.length) + 1 - i).toNat) (0) _ (Wk.refl _ _) ((by rw [hz, ho]; rfl)) ?_ ?_ ?_
          · repeat' (first | exact True.intro | refine And.intro ?_ ?_ | rfl)
          · omega
          · intro i d2 hi
            by_cases hiL : (i : Int) ≤ Dk.lastI keep (min d.waits.length keep.length)
            · have hsf := Dk.sf_len (keep := keep) hd hiL
              have hsb : r.sb.ok 1 ((Dk.sf d keep (Dk.lastI keep (min d.waits.length keep.length)) i).map sV) d.safe.length := Buf.ok_len hk.sb (by simp [hsf.2])
              have hw := hd.waits _ (getD_mem (d := default) (show i < d.waits.length by omega))
              have hcur := hsf.1 _ (getD_mem (d := []) (show (d.waits.getD i default).1 < (Dk.sf d keep (Dk.lastI keep (min d.waits.length keep.length)) i).length by rw [hsf.2]; exact hw.1))
              have hib := nb_get keep i
              have hbl : (nb keep).getD i 0 < 256 := by rw [hib]; exact UInt8.toNat_lt _
              repeat' (conv => whnf
                       first
                       | ((with_reducible refine DrawSt.walk [0, 1, 2, 3, 4, 5, 6, 7, 8, 9, 10, 11, 12, 13, 14, 15, 16, 17, 18, 19, 20, 21, 22] mixed ?_ ?_); · decide +kernel)
                       | ((with_reducible apply LoadSt.rdg (g := wV) (s := 2)); (· rfl); (· (repeat (first | (with_reducible apply Buf.rd; with_reducible assumption) | with_reducible apply Rd.cons | with_reducible apply Rd.appR))); (· exact fun _ => rfl); (· decide); · (omega))
                       | ((with_reducible apply IdxSl.bufm (s := 2)); (· with_reducible assumption); (· rfl); (· rfl); (· with_reducible rfl); · (omega))
                       | (with_reducible refine NextSt.mk ?_)
                       | (with_reducible refine OnBB.tt ?_)
                       | (with_reducible refine OnBB.ff ?_)
                       | ((with_reducible apply NW.addN); (· with_reducible rfl); (· exact natL _); (· omega))
                       | ((with_reducible apply NW.i64N); (· with_reducible rfl); (· omega))
                       | ((with_reducible apply Cmp.yes); · omega)
                       | ((with_reducible apply Cmp.no); · omega)
                       | ((with_reducible apply LoadSt.box); · (repeat (first | exact List.Mem.head _ | with_reducible apply List.mem_append_right | with_reducible apply List.mem_cons_of_mem)))
                       | ((with_reducible apply LoadSt.rdS); (· (repeat (first | (with_reducible apply Rd.appL; with_reducible apply Buf.rd; with_reducible assumption) | with_reducible apply Rd.cons))); · (omega))
                       | ((with_reducible refine AllocSt.mk ?_); intro _b _hb _hbO)
                       | ((with_reducible apply StoreSt.bufm); (· (repeat (first | with_reducible exact Loc.hd | with_reducible apply Loc.tl))); (· with_reducible assumption); (· (with_reducible rfl)); (· rfl); (· (omega)); (· rfl))
                       | ((with_reducible apply StoreSt.box); (· (repeat (exact Upd.hd))); (· rfl); (· rfl); (· rfl))
                       | ((with_reducible apply StrIdx.m); (· with_reducible rfl); · omega)
                       | ((with_reducible apply StrAdd.mk); · ((simp only [List.length_map, List.length_append, List.length_cons, List.length_nil, List.length_take, List.length_drop, List.length_replicate, List.length_set] at *; omega)))
                       | ((with_reducible apply IdxSl.buf1); (· with_reducible assumption); (· rfl); (· rfl); (· with_reducible rfl); · (omega))
                       | ((with_reducible apply StrSl.lo); (· first | with_reducible rfl | exact natL _); (· (omega)))
                       | ((with_reducible apply StrSl.hi); (· first | with_reducible rfl | exact natL _); (· (omega)))
                       | ((with_reducible refine Cmp.mk ?_ ?_) <;> intro _hc))
              all_goals first | rw [Dk.sf_step (K := 64) hd hiL (by rw [← hib, if_pos (by omega)])] | rw [Dk.sf_step (K := (nb keep).getD i 0) hd hiL (by rw [← hib, if_neg (by omega)])]
              all_goals
                refine RoundFix.mk (i + 1) ?_ ?_ _ rfl (Wk.drop (by (try dsimp only); (try simp only [List.cons_append, List.nil_append]); (repeat (first | with_reducible exact List.Sublist.refl _ | with_reducible apply List.Sublist.cons)))) ?_
                · omega
                · repeat' (first | exact True.intro | refine And.intro ?_ ?_ | rfl)
                · omega
            · rw [Dk.sf_end (by omega)]
              repeat' (conv => whnf
                       first
                       | (with_reducible refine NextSt.mk ?_)
                       | (with_reducible refine OnBB.ff ?_)
                       | ((with_reducible apply Cmp.no); · omega)
                       | ((with_reducible apply StoreSt.box); (· (repeat (exact Upd.hd))); (· rfl); (· rfl); (· rfl)))
              refine FinSt.own (R := fun v O' => ER r _ noV v O') (List.Sublist.cons_cons _ ((List.Sublist.refl _).append (List.nil_sublist _))) ⟨⟨r.p, r.sb, Buf.nil⟩, rfl, ?_, ⟨?_, Buf.nil_ok 2⟩, rfl⟩
              · simp only [eHp, Dk.restart, ho, Dk.tear_len]
                rfl
              · have e : (d.restart keep).safe.length = d.safe.length := Dk.tear_len _ _
                show r.sb.ok 1 ((d.restart keep).safe.map sV) (d.restart keep).safe.length
                rw [e]
                exact Buf.ok_len hk.sb (by rw [List.length_map, List.length_map]; exact e)
end Go.Proofs.Ytlbmlimaobkhpaa
/- The reference's disks are made; disks are compared. -/
namespace Go.Proofs.Ytlbmlimaobkhpaa
open Go Go.Gv
set_option maxRecDepth 100000
set_option maxHeartbeats 4000000
set_option linter.unusedSimpArgs false
set_option linter.unusedVariables false
def MadeE (n : Int) (v : Value) (H : Hp) : Prop :=
  if 1 ≤ n ∧ n ≤ 4096 then ∃ r, v = .tuple ⟨[dP r, .int .i64 0]⟩ ∧ H = eHp r (Dk.mk0 n.toNat) ∧ dOk r (Dk.mk0 n.toNat)
  else v = .tuple ⟨[.pointer none, .int .i64 1]⟩ ∧ H = []
theorem f35 (n : Int) (h : View) (O : Hp) : GSpec Try.prog 35 [.int .i64 n] h O (New O (MadeE n)) := by
  by_cases hn : 1 ≤ n ∧ n ≤ 4096
  · obtain ⟨n, rfl⟩ := nat_of (show 0 ≤ n by omega)
    have e102 : ∀ h O, GSpec Try.prog 102 [.int .i64 64] h O (Ret O (sV zs)) := fun h O => f102 64 (by decide) h O
    refine GSpec.enter (fn := Try.f35) Try.func35 rfl (by kernel_rfl) ?_
    repeat' (conv => whnf
             first
             | (((with_reducible refine AllocSt.mk ?_); intro pb _hpb _hpbO))
             | (with_reducible refine NextSt.mk ?_)
             | (with_reducible refine OnBB.ff ?_)
             | ((with_reducible apply Cmp.no); · omega))
    refine LoopSt.fix [5, 14, 15, 16, 17, 18, 19, 20, 21, 22, 23, 24, 25, 26, 27, 28] (fun ((k, B) : Nat × Buf) => [(5, iN k)]) (fun (k, B) => (pb, .cells ⟨[.slice B.a k B.cap, .slice none 0 0, .bool true, iN 0, iN 0]⟩ 145 (0, 0)) :: (B.hp 9 ((List.replicate k zs).map sV) ++ O)) (fun (k, B) => k ≤ n ∧ B.ok 1 ((List.replicate k zs).map sV) k) (fun (k, B) => n - k) ((0, Buf.nil)) _ (Wk.refl _ _) (rfl) ?_ ?_ ?_
    · repeat' (first | exact True.intro | refine And.intro ?_ ?_ | rfl)
    · exact ⟨Nat.zero_le _, Buf.nil_ok 1⟩
    · rintro ⟨k, B⟩ d ⟨hk, hB⟩
      dsimp only at hk hB ⊢
      by_cases hkn : k < n
      · repeat' (conv => whnf
                 first
                 | ((with_reducible refine CallG.rd (f := 102) (X := sV zs) ?_ ?_); (· exact e102 _ _))
                 | (((with_reducible apply AppSt.lit1 (g := sV) (x := zs) (z := .string ⟨⟨[]⟩⟩)); (· (repeat (first | with_reducible exact Loc.hd | with_reducible apply Loc.tl))); (· exact hB); (· (repeat (exact List.Mem.head _))); (· rfl); (· rfl); (· rfl); (· rfl); (· rfl); (· rfl); (· (show _ * 16 ≤ _; omega)); (· omega); intro C hC))
                 | ((with_reducible refine DrawSt.walk [0, 1, 2, 3, 4, 5, 6, 7, 8, 9, 10] mixed ?_ ?_); · decide +kernel)
                 | (with_reducible refine NextSt.mk ?_)
                 | (with_reducible refine OnBB.tt ?_)
                 | ((with_reducible apply NW.addN); (· with_reducible rfl); (· exact natL _); (· omega))
                 | ((with_reducible apply Cmp.yes); · omega)
                 | ((with_reducible apply LoadSt.box); · (repeat (exact List.Mem.head _)))
                 | ((with_reducible refine AllocSt.mk ?_); intro _b _hb _hbO)
                 | ((with_reducible apply StoreSt.box); (· (repeat (first | exact Upd.hd | apply Upd.tl))); (· rfl); (· rfl); (· rfl)))
        rw [show List.replicate k zs ++ [zs] = List.replicate (k + 1) zs from List.replicate_succ'.symm] at hC ⊢
        refine RoundFix.mk ((k + 1, C)) ?_ ?_ _ rfl (Wk.drop (by (try dsimp only); (try simp only [List.cons_append, List.nil_append]); (repeat (first | with_reducible exact List.Sublist.refl _ | with_reducible apply List.Sublist.cons)))) ?_
        · dsimp only; omega
        · repeat' (first | exact True.intro | refine And.intro ?_ ?_ | rfl)
        · exact ⟨by omega, hC⟩
      · have : k = n := by omega
        subst this
        repeat' (conv => whnf
                 first
                 | (with_reducible refine NextSt.mk ?_)
                 | (with_reducible refine OnBB.ff ?_)
                 | ((with_reducible apply Cmp.no); · omega))
        refine FinSt.new (H := [(pb, .cells ⟨[.slice B.a k B.cap, .slice none 0 0, .bool true, iN 0, iN 0]⟩ 145 (0, 0))] ++ B.hp 9 ((List.replicate k zs).map sV)) (R := MadeE k) (by rw [List.append_assoc]; exact List.Sublist.refl _) ?_
        unfold MadeE
        rw [if_pos hn]
        have hm : Dk.mk0 (k : Int).toNat = Dk.mk0 k := rfl
        rw [hm]
        refine ⟨⟨pb, B, Buf.nil⟩, rfl, ?_, ⟨?_, Buf.nil_ok 2⟩⟩
        · simp only [eHp, Dk.mk0, List.length_replicate, List.length_nil]
          show _ = _ :: (_ ++ [])
          rw [List.append_nil]
          rfl
        · show B.ok 1 ((List.replicate k zs).map sV) (List.replicate k zs).length
          rw [List.length_replicate]
          exact hB
  · refine GSpec.enter (fn := Try.f35) Try.func35 rfl (by kernel_rfl) ?_
    repeat' (conv => whnf
             first
             | (with_reducible refine NextSt.mk ?_)
             | (with_reducible refine OnBB.tt ?_)
             | (with_reducible refine OnBB.ff ?_)
             | ((with_reducible apply Cmp.yes); · omega)
             | ((with_reducible refine Cmp.mk ?_ ?_) <;> intro _hc))
    all_goals
      conv => whnf
      refine FinSt.new (H := []) (R := MadeE n) (by (try dsimp only); (try simp only [List.cons_append, List.nil_append]); (repeat (with_reducible exact List.Sublist.refl _))) ?_
      unfold MadeE
      rw [if_neg hn]
      exact ⟨rfl, rfl⟩
theorem f51 (r s : Dr) (d : Dk) (O : Hp) {φ ψ : Hp → Hp} (lr : Gv.Loc O (dHp r d) φ) (ls : Gv.Loc O (eHp s d) ψ) (hd : d.ok) (hr : dOk r d) (hs : dOk s d) (h : View) : GSpec Try.prog 51 [dP r, dP s] h O (Ret O (.bool true)) := by
  have hsz := hd.size
  have l49 := fun h => GSpec.locRet (H := dHp r d) (O := O) lr (f49 r d h)
  have l50 := fun h => GSpec.locRet (H := eHp s d) (O := O) ls (f50 s d h)
  have l47 := fun h => GSpec.locRet (H := dHp r d) (O := O) lr (f47 r d h)
  have l48 := fun h => GSpec.locRet (H := eHp s d) (O := O) ls (f48 s d h)
  have l41 := fun a h => GSpec.locRet (H := dHp r d) (O := O) lr (f41 r d a hd.few.1 hr h)
  have l42 := fun a h => GSpec.locRet (H := eHp s d) (O := O) ls (f42 s d a hd hs h)
  generalize (!d.off) = u at *
  cases u
  · refine GSpec.enter (fn := Try.f51) Try.func51 rfl (by kernel_rfl) ?_
    repeat' (conv => whnf
             first
             | ((with_reducible refine CallSt.rd (f := 49) (X := iN d.safe.length) ?_ ?_); (· exact l49 _))
             | ((with_reducible refine CallSt.rd (f := 50) (X := iN d.safe.length) ?_ ?_); (· exact l50 _))
             | ((with_reducible refine CallSt.rd (f := 47) (X := .bool false) ?_ ?_); (· exact l47 _))
             | ((with_reducible refine CallSt.rd (f := 48) (X := .bool false) ?_ ?_); (· exact l48 _))
             | (with_reducible refine NextSt.mk ?_)
             | (with_reducible refine OnBB.tt ?_)
             | (with_reducible refine OnBB.ff ?_)
             | ((with_reducible apply Cmp.no); · omega)
             | ((with_reducible refine OnBB.mk ?_ ?_) <;> intro _hc))
    rotate_left
    · cases _hc
    refine LoopSt.fix [4, 5, 6, 7, 8, 9, 22, 23, 24, 25, 26, 27, 28, 29, 30, 31, 32, 33, 34, 35, 36, 37, 38, 39, 40, 41, 42, 43, 44, 45, 46, 47] (fun (k : Nat) => [(5, iN k)]) (fun _ => _) (fun k => k ≤ d.safe.length) (fun k => d.safe.length - k) (0) _ (Wk.refl _ _) (rfl) ?_ ?_ ?_
    · repeat' (first | exact True.intro | refine And.intro ?_ ?_ | rfl)
    · exact Nat.zero_le _
    · intro k d2 hk
      by_cases hkl : k < d.safe.length
      · have m41 := l41 k
        have m42 := l42 k
        generalize d.read k = q at *
        obtain ⟨q1, q2⟩ := q
        repeat' (conv => whnf
                 first
                 | ((with_reducible refine CallSt.rd (f := 50) (X := iN d.safe.length) ?_ ?_); (· exact l50 _))
                 | ((with_reducible refine CallSt.rd (f := 41) (X := strE (q1, q2)) ?_ ?_); (· exact m41 _))
                 | ((with_reducible refine CallSt.rd (f := 42) (X := strE (q1, q2)) ?_ ?_); (· exact m42 _))
                 | (((with_reducible apply Cmp.no); · exact fun h => h rfl))
                 | (with_reducible refine NextSt.mk ?_)
                 | (with_reducible refine OnBB.tt ?_)
                 | (with_reducible refine OnBB.ff ?_)
                 | ((with_reducible apply NW.addN); (· with_reducible rfl); (· exact natL _); (· omega))
                 | ((with_reducible apply Cmp.yes); · omega))
        refine RoundFix.mk (k + 1) ?_ ?_ _ rfl (Wk.drop (by (try dsimp only); (try simp only [List.cons_append, List.nil_append]); (repeat (with_reducible exact List.Sublist.refl _)))) ?_
        · omega
        · repeat' (first | exact True.intro | refine And.intro ?_ ?_ | rfl)
        · omega
      · repeat' (conv => whnf
                 first
                 | ((with_reducible refine CallSt.rd (f := 50) (X := iN d.safe.length) ?_ ?_); (· exact l50 _))
                 | (with_reducible refine NextSt.mk ?_)
                 | (with_reducible refine OnBB.ff ?_)
                 | ((with_reducible apply Cmp.no); · omega))
        conv => whnf
        refine FinSt.ret (by (try dsimp only); (try simp only [List.cons_append, List.nil_append]); (repeat (with_reducible exact List.Sublist.refl _))) ?_
        rfl
  · refine GSpec.enter (fn := Try.f51) Try.func51 rfl (by kernel_rfl) ?_
    repeat' (conv => whnf
             first
             | ((with_reducible refine CallSt.rd (f := 49) (X := iN d.safe.length) ?_ ?_); (· exact l49 _))
             | ((with_reducible refine CallSt.rd (f := 50) (X := iN d.safe.length) ?_ ?_); (· exact l50 _))
             | ((with_reducible refine CallSt.rd (f := 47) (X := .bool true) ?_ ?_); (· exact l47 _))
             | ((with_reducible refine CallSt.rd (f := 48) (X := .bool true) ?_ ?_); (· exact l48 _))
             | (with_reducible refine NextSt.mk ?_)
             | (with_reducible refine OnBB.tt ?_)
             | (with_reducible refine OnBB.ff ?_)
             | ((with_reducible apply Cmp.no); · omega)
             | ((with_reducible refine OnBB.mk ?_ ?_) <;> intro _hc))
    rotate_left
    · cases _hc
    refine LoopSt.fix [4, 5, 6, 7, 8, 9, 22, 23, 24, 25, 26, 27, 28, 29, 30, 31, 32, 33, 34, 35, 36, 37, 38, 39, 40, 41, 42, 43, 44, 45, 46, 47] (fun (k : Nat) => [(5, iN k)]) (fun _ => _) (fun k => k ≤ d.safe.length) (fun k => d.safe.length - k) (0) _ (Wk.refl _ _) (rfl) ?_ ?_ ?_
    · repeat' (first | exact True.intro | refine And.intro ?_ ?_ | rfl)
    · exact Nat.zero_le _
    · intro k d2 hk
      by_cases hkl : k < d.safe.length
      · have m41 := l41 k
        have m42 := l42 k
        generalize d.read k = q at *
        obtain ⟨q1, q2⟩ := q
        repeat' (conv => whnf
                 first
                 | ((with_reducible refine CallSt.rd (f := 50) (X := iN d.safe.length) ?_ ?_); (· exact l50 _))
                 | ((with_reducible refine CallSt.rd (f := 41) (X := strE (q1, q2)) ?_ ?_); (· exact m41 _))
                 | ((with_reducible refine CallSt.rd (f := 42) (X := strE (q1, q2)) ?_ ?_); (· exact m42 _))
                 | (((with_reducible apply Cmp.no); · exact fun h => h rfl))
                 | (with_reducible refine NextSt.mk ?_)
                 | (with_reducible refine OnBB.tt ?_)
                 | (with_reducible refine OnBB.ff ?_)
                 | ((with_reducible apply NW.addN); (· with_reducible rfl); (· exact natL _); (· omega))
                 | ((with_reducible apply Cmp.yes); · omega))
        refine RoundFix.mk (k + 1) ?_ ?_ _ rfl (Wk.drop (by (try dsimp only); (try simp only [List.cons_append, List.nil_append]); (repeat (with_reducible exact List.Sublist.refl _)))) ?_
        · omega
        · repeat' (first | exact True.intro | refine And.intro ?_ ?_ | rfl)
        · omega
      · repeat' (conv => whnf
                 first
                 | ((with_reducible refine CallSt.rd (f := 50) (X := iN d.safe.length) ?_ ?_); (· exact l50 _))
                 | (with_reducible refine NextSt.mk ?_)
                 | (with_reducible refine OnBB.ff ?_)
                 | ((with_reducible apply Cmp.no); · omega))
        conv => whnf
        refine FinSt.ret (by (try dsimp only); (try simp only [List.cons_append, List.nil_append]); (repeat (with_reducible exact List.Sublist.refl _))) ?_
        rfl
end Go.Proofs.Ytlbmlimaobkhpaa
/- RadioDisks: the walk. -/
namespace Go.Proofs.Ytlbmlimaobkhpaa
open Go Go.Gv
set_option maxRecDepth 100000
set_option maxHeartbeats 4000000
set_option linter.unusedSimpArgs false
set_option linter.unusedVariables false
structure Dop where
  kind : Int
  n : Int
  s : Str
instance : Inhabited Dop := ⟨⟨0, 0, []⟩⟩
namespace Dk
structure okk (d : Dk) (k : Nat) : Prop where
  ok : d.ok
  w : d.waits.length ≤ k
  f : d.falls ≤ k
theorem okk.up {d : Dk} {k : Nat} (h : d.okk k) : d.okk (k + 1) := ⟨h.ok, by have := h.w; omega, by have := h.f; omega⟩
end Dk
end Go.Proofs.Ytlbmlimaobkhpaa
/- RadioDisks: the walk. -/
namespace Go.Proofs.Ytlbmlimaobkhpaa
open Go Go.Gv
set_option maxRecDepth 100000
set_option maxHeartbeats 4000000
set_option linter.unusedSimpArgs false
set_option linter.unusedVariables false
end Go.Proofs.Ytlbmlimaobkhpaa
/- RadioDisks: what its arguments read as. -/
namespace Go.Proofs.Ytlbmlimaobkhpaa
open Go Go.Gv
set_option maxRecDepth 100000
end Go.Proofs.Ytlbmlimaobkhpaa
