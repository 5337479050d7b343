/- RadioDisks: the disks of the program and of the reference, the walk, what the arguments read as. -/
import Derived.Test.YtlbmlimaobkhpaaRd
import Derived.Test.YtlbmlimaobkhpaaRe
import Derived.Test.YtlbmlimaobkhpaaGc
import Derived.Test.YtlbmlimaobkhpaaLa
import Derived.Test.YtlbmlimaobkhpaaPa
set_option linter.unusedVariables false
set_option linter.unusedSimpArgs false
set_option linter.unusedSectionVars false
/- The reference's disks: writing, settling, reading. -/
namespace Go.Proofs.Ytlbmlimaobkhpaa
open Go Go.Gv
set_option maxRecDepth 100000
set_option maxHeartbeats 4000000
set_option linter.unusedSimpArgs false
set_option linter.unusedVariables false

def eHp (r : Dr) (d : Dk) : Hp :=
  (r.p, .cells ⟨[.slice r.sb.a d.safe.length r.sb.cap, .slice r.wb.a d.waits.length r.wb.cap, .bool !d.off, iN d.armed, iN d.falls]⟩ 145 (0, 0)) ::
    (r.sb.hp 9 (d.safe.map sV) ++ r.wb.hp 151 (d.waits.flatMap wV))
/-- What a call leaves of a disk of the reference. -/
def ER (r : Dr) (d : Dk) (X : Value) (v : Value) (O' : Hp) : Prop := ∃ r', r'.p = r.p ∧ O' = eHp r' d ∧ dOk r' d ∧ v = X

theorem f102 (n : Nat) (hn : n ≤ 1000000) (h : View) (O : Hp) : GSpec Try.prog 102 [.int .i64 (n : Nat)] h O (Ret O (sV (List.replicate n 0))) := by
  refine GSpec.enter (fn := Try.f102) Try.func102 rfl (by kernel_rfl) ?_
  repeat' (conv => whnf
           first
           | (refine ToStr.bytes (l := List.replicate n 0) (Rd.own0 (List.Mem.head _)) (byt.rep n) (List.length_replicate ..) ?_)
           | (with_reducible refine NextSt.mk ?_)
           | ((with_reducible apply MakeSt.bN); (· rfl); (· rfl); (· first | with_reducible rfl | exact natL _); (· first | with_reducible rfl | exact natL _); (· (show 1 * _ ≤ _; omega)); (· omega); intro _b _hb _hbO))
  refine FinSt.ret (List.Sublist.cons _ (List.Sublist.refl _)) ?_
  show sV _ = sV _
  simp only [List.map_replicate]; rfl
/-- A sector's text: filled up with zeros. -/
def secV (s : Str) : Str := if 0 < s.length ∧ s.length < 64 then s ++ List.replicate (64 - s.length) 0 else s
theorem f37 (s : Str) (hs : s.length ≤ 9223372036854775807) (h : View) (O : Hp) : GSpec Try.prog 37 [sV s] h O (Ret O (sV (secV s))) := by
  by_cases hc : 0 < s.length ∧ s.length < 64
  · rw [show secV s = s ++ List.replicate (64 - s.length) 0 from if_pos hc]
    refine GSpec.enter (fn := Try.f37) Try.func37 rfl (by kernel_rfl) ?_
    repeat' (conv => whnf
             first
             | (refine ToStr.bytes (l := List.replicate (64 - s.length) 0) (Rd.own0 (List.Mem.head _)) (byt.rep _) (List.length_replicate ..) ?_)
             | (with_reducible refine NextSt.mk ?_)
             | (with_reducible refine OnBB.tt ?_)
             | ((with_reducible apply NW.subN); (· first | with_reducible rfl | exact natL _); (· first | with_reducible rfl | exact natL _); (· omega))
             | ((with_reducible apply Cmp.yes); · first | omega | (with_reducible assumption) | (with_reducible rfl))
             | ((with_reducible apply StrAdd.mk); · (first | omega | (simp only [List.length_map, List.length_append, List.length_cons, List.length_nil, List.length_take, List.length_drop, List.length_replicate, List.length_set] at *; omega)))
             | ((with_reducible apply MakeSt.bN); (· rfl); (· rfl); (· first | with_reducible rfl | exact natL _); (· first | with_reducible rfl | exact natL _); (· (show 1 * _ ≤ _; omega)); (· omega); intro _b _hb _hbO))
    refine FinSt.ret (List.Sublist.cons _ (List.Sublist.refl _)) ?_
    show sV _ = sV _
    simp only [List.map_replicate]; rfl
  · rw [show secV s = s from if_neg hc]
    refine GSpec.enter (fn := Try.f37) Try.func37 rfl (by kernel_rfl) ?_
    repeat' (conv => whnf
             first
             | (with_reducible refine NextSt.mk ?_)
             | (with_reducible refine OnBB.tt ?_)
             | (with_reducible refine OnBB.ff ?_)
             | ((with_reducible apply Cmp.no); · first | omega | (with_reducible assumption))
             | ((with_reducible refine Cmp.mk ?_ ?_) <;> intro _hc))
    all_goals (conv => whnf)
    all_goals refine FinSt.ret (by (try dsimp only); (try simp only [List.cons_append, List.nil_append]); (repeat (first | with_reducible exact List.Sublist.refl _ | with_reducible exact List.nil_sublist _ | with_reducible apply List.Sublist.cons_cons | with_reducible apply sub_app | apply List.Sublist.cons_cons | apply sub_app | with_reducible apply List.Sublist.cons | with_reducible apply sub_skip))) ?_
    all_goals rfl
theorem f50 (r : Dr) (d : Dk) (h : View) : GSpec Try.prog 50 [dP r] h (eHp r d) (Ret (eHp r d) (iN d.safe.length)) := by
  unfold eHp
  refine GSpec.enter (fn := Try.f50) Try.func50 rfl (by kernel_rfl) ?_
  repeat' (conv => whnf
           first
           | (with_reducible refine NextSt.mk ?_)
           | ((with_reducible apply LoadSt.box); · (repeat (first | exact List.Mem.head _ | with_reducible apply List.mem_append_right | with_reducible apply List.mem_cons_of_mem))))
  conv => whnf
  refine FinSt.ret (by (try dsimp only); (try simp only [List.cons_append, List.nil_append]); (repeat (first | with_reducible exact List.Sublist.refl _ | with_reducible exact List.nil_sublist _ | with_reducible apply List.Sublist.cons_cons | with_reducible apply sub_app | apply List.Sublist.cons_cons | apply sub_app | with_reducible apply List.Sublist.cons | with_reducible apply sub_skip))) ?_
  rfl
theorem f48 (r : Dr) (d : Dk) (h : View) : GSpec Try.prog 48 [dP r] h (eHp r d) (Ret (eHp r d) (.bool !d.off)) := by
  unfold eHp
  refine GSpec.enter (fn := Try.f48) Try.func48 rfl (by kernel_rfl) ?_
  repeat' (conv => whnf
           first
           | (with_reducible refine NextSt.mk ?_)
           | ((with_reducible apply LoadSt.box); · (repeat (first | exact List.Mem.head _ | with_reducible apply List.mem_append_right | with_reducible apply List.mem_cons_of_mem))))
  conv => whnf
  refine FinSt.ret (by (try dsimp only); (try simp only [List.cons_append, List.nil_append]); (repeat (first | with_reducible exact List.Sublist.refl _ | with_reducible exact List.nil_sublist _ | with_reducible apply List.Sublist.cons_cons | with_reducible apply sub_app | apply List.Sublist.cons_cons | apply sub_app | with_reducible apply List.Sublist.cons | with_reducible apply sub_skip))) ?_
  rfl
theorem f105 (r : Dr) (d : Dk) (ho : d.off = false) (hd : d.falls < 1000000000) (ha : d.armed ≤ 9223372036854775807) (hk : dOk r d) (h : View) : GSpec Try.prog 105 [dP r] h (eHp r d) (fun v _ O' => ER r d.strike.1 (.bool d.strike.2) v O') := by
  by_cases h0 : d.armed = 0
  · have e : d.strike = (d, false) := if_pos h0
    rw [e]
    obtain ⟨safe, waits, off, armed, falls⟩ := d
    simp only at h0 ho
    subst h0 ho
    simp only [eHp]
    refine GSpec.enter (fn := Try.f105) Try.func105 rfl (by kernel_rfl) ?_
    repeat' (conv => whnf
             first
             | (with_reducible refine NextSt.mk ?_)
             | (with_reducible refine OnBB.tt ?_)
             | ((with_reducible apply Cmp.yes); · first | omega | (with_reducible assumption) | (with_reducible rfl))
             | ((with_reducible apply LoadSt.box); · (repeat (first | exact List.Mem.head _ | with_reducible apply List.mem_append_right | with_reducible apply List.mem_cons_of_mem))))
    exact FinSt.own (R := fun v O' => ER r _ _ v O') (List.Sublist.refl _) ⟨r, rfl, rfl, hk, rfl⟩
  · by_cases h1 : d.armed = 1
    · have e : d.strike = (d.fall, true) := by rw [Dk.strike, if_neg h0, if_pos h1]
      rw [e]
      obtain ⟨safe, waits, off, armed, falls⟩ := d
      simp only at h1 hd ho
      subst h1 ho
      simp only [eHp]
      refine GSpec.enter (fn := Try.f105) Try.func105 rfl (by kernel_rfl) ?_
      repeat' (conv => whnf
               first
               | (with_reducible refine NextSt.mk ?_)
               | (with_reducible refine OnBB.ff ?_)
               | ((with_reducible apply NW.addN); (· first | with_reducible rfl | exact natL _); (· first | with_reducible rfl | exact natL _); (· omega))
               | ((with_reducible apply NW.subN); (· first | with_reducible rfl | exact natL _); (· first | with_reducible rfl | exact natL _); (· omega))
               | ((with_reducible apply Cmp.no); · first | omega | (with_reducible assumption))
               | ((with_reducible apply LoadSt.box); · (repeat (first | exact List.Mem.head _ | with_reducible apply List.mem_append_right | with_reducible apply List.mem_cons_of_mem)))
               | ((with_reducible apply StoreSt.box); (· (repeat (first | exact Upd.hd | apply Upd.tl | apply Upd.app))); (· rfl); (· rfl); (· rfl)))
      exact FinSt.own (R := fun v O' => ER r _ _ v O') (List.Sublist.refl _) ⟨r, rfl, rfl, ⟨hk.sb, hk.wb⟩, rfl⟩
    · have e : d.strike = ({ d with armed := d.armed - 1 }, false) := by rw [Dk.strike, if_neg h0, if_neg h1]
      rw [e]
      obtain ⟨safe, waits, off, armed, falls⟩ := d
      simp only at h0 h1 ha ho
      subst ho
      simp only [eHp]
      refine GSpec.enter (fn := Try.f105) Try.func105 rfl (by kernel_rfl) ?_
      repeat' (conv => whnf
               first
               | (with_reducible refine NextSt.mk ?_)
               | (with_reducible refine OnBB.tt ?_)
               | (with_reducible refine OnBB.ff ?_)
               | ((with_reducible apply NW.subN); (· first | with_reducible rfl | exact natL _); (· first | with_reducible rfl | exact natL _); (· omega))
               | ((with_reducible apply Cmp.yes); · first | omega | (with_reducible assumption) | (with_reducible rfl))
               | ((with_reducible apply Cmp.no); · first | omega | (with_reducible assumption))
               | ((with_reducible apply LoadSt.box); · (repeat (first | exact List.Mem.head _ | with_reducible apply List.mem_append_right | with_reducible apply List.mem_cons_of_mem)))
               | ((with_reducible apply StoreSt.box); (· (repeat (first | exact Upd.hd | apply Upd.tl | apply Upd.app))); (· rfl); (· rfl); (· rfl)))
      exact FinSt.own (R := fun v O' => ER r _ _ v O') (List.Sublist.refl _) ⟨r, rfl, rfl, ⟨hk.sb, hk.wb⟩, rfl⟩
theorem f44 (r : Dr) (d : Dk) (n : Int) (hn : -9223372036854775808 ≤ n ∧ n ≤ 9223372036854775807) (hk : dOk r d) (h : View) : GSpec Try.prog 44 [dP r, .int .i64 n] h (eHp r d) (fun v _ O' => ER r (d.arm n) noV v O') := by
  obtain ⟨safe, waits, off, armed, falls⟩ := d
  by_cases hp : 0 < n
  · obtain ⟨n, rfl⟩ := nat_of (show 0 ≤ n by omega)
    simp only [eHp]
    refine GSpec.enter (fn := Try.f44) Try.func44 rfl (by kernel_rfl) ?_
    repeat' (conv => whnf
             first
             | (with_reducible refine NextSt.mk ?_)
             | (with_reducible refine OnBB.tt ?_)
             | ((with_reducible apply Cmp.yes); · first | omega | (with_reducible assumption) | (with_reducible rfl))
             | ((with_reducible apply StoreSt.box); (· (repeat (first | exact Upd.hd | apply Upd.tl | apply Upd.app))); (· rfl); (· rfl); (· rfl)))
    exact FinSt.own (R := fun v O' => ER r (Dk.arm _ n) noV v O') (List.Sublist.refl _) ⟨r, rfl, rfl, ⟨hk.sb, hk.wb⟩, rfl⟩
  · have e : Dk.arm ⟨safe, waits, off, armed, falls⟩ n = ⟨safe, waits, off, 0, falls⟩ := by simp only [Dk.arm]; congr 1; omega
    rw [e]
    simp only [eHp]
    refine GSpec.enter (fn := Try.f44) Try.func44 rfl (by kernel_rfl) ?_
    repeat' (conv => whnf
             first
             | (with_reducible refine NextSt.mk ?_)
             | (with_reducible refine OnBB.ff ?_)
             | ((with_reducible apply Cmp.no); · first | omega | (with_reducible assumption))
             | ((with_reducible apply StoreSt.box); (· (repeat (first | exact Upd.hd | apply Upd.tl | apply Upd.app))); (· rfl); (· rfl); (· rfl)))
    exact FinSt.own (R := fun v O' => ER r _ noV v O') (List.Sublist.refl _) ⟨r, rfl, rfl, ⟨hk.sb, hk.wb⟩, rfl⟩
theorem f38 (r : Dr) (d : Dk) (a : Int) (s : Str) (hd : d.ok) (hsl : s.length ≤ 9223372036854775807) (hk : dOk r d) (h : View) : GSpec Try.prog 38 [dP r, .int .i64 a, sV s] h (eHp r d) (fun v _ O' => ER r (d.write a s).1 (.int .i64 (d.write a s).2) v O') := by
  have hf1 := hd.few.1
  have hf2 := hd.few.2
  have hfa := hd.armed
  have hsz := hd.size
  by_cases he : d.err a = 0
  · obtain ⟨ho, a1, a2⟩ := err_ok he
    obtain ⟨a, rfl⟩ := nat_of a1
    by_cases hs : s.length = 64
    · have e : d.write a s = ((Dk.strike { d with waits := d.waits ++ [(a, s)] }).1, if (Dk.strike { d with waits := d.waits ++ [(a, s)] }).2 then 93 else 0) := by
        simp only [Dk.write, he, hs, ne_eq, not_true_eq_false, if_false, Int.toNat_natCast]
      rw [e]
      cases h2 : (Dk.strike { d with waits := d.waits ++ [(a, s)] }).2
      all_goals
        have e104 := fun r' hk' => f105 r' { d with waits := d.waits ++ [(a, s)] } ho hf2 hfa hk' h
        have hlen : (d.waits ++ [(a, s)]).length = d.waits.length + 1 := by simp
        simp only [Bool.false_eq_true, if_false, if_true]
        unfold eHp
        rw [ho] at e104 h2 ⊢
        rw [Bool.not_false]
        refine GSpec.enter (fn := Try.f38) Try.func38 rfl (by kernel_rfl) ?_
        repeat' (conv => whnf
                 first
                 | ((with_reducible apply AppSt.litm (g := wV) (x := (a, s)) (s := 2) (z := .agg ⟨[.int .i64 0, .string ⟨⟨[]⟩⟩]⟩)); (· (repeat (first | with_reducible exact Loc.hd | with_reducible exact Loc.last | with_reducible exact Loc.one | with_reducible apply Loc.tl | with_reducible apply Loc.skip))); (· exact hk.wb); (· (repeat (first | exact List.Mem.head _ | with_reducible apply List.mem_append_right | with_reducible apply List.mem_cons_of_mem))); (· rfl); (· rfl); (· rfl); (· rfl); (· rfl); (· rfl); (· rfl); (· (show _ * 24 ≤ _; omega)); (· omega); intro wb' hwb'; rw [← hlen] at hwb' ⊢)
                 | ((with_reducible apply CallSt.loc (f := 105) (H := eHp ⟨r.p, r.sb, wb'⟩ { d with waits := d.waits ++ [(a, s)], off := false }) (R := ER ⟨r.p, r.sb, wb'⟩ (Dk.strike { d with waits := d.waits ++ [(a, s)], off := false }).1 (.bool (Dk.strike { d with waits := d.waits ++ [(a, s)], off := false }).2))); (· (unfold eHp; exact Loc.tl Loc.last)); (· exact e104 ⟨r.p, r.sb, wb'⟩ ⟨hk.sb, hwb'⟩); rintro _ _ ⟨r2, hp2, rfl, hk2, rfl⟩; rw [h2])
                 | (with_reducible refine NextSt.mk ?_)
                 | (with_reducible refine OnBB.tt ?_)
                 | (with_reducible refine OnBB.ff ?_)
                 | ((with_reducible apply Cmp.no); · first | omega | (with_reducible assumption))
                 | ((with_reducible apply LoadSt.box); · (repeat (first | exact List.Mem.head _ | with_reducible apply List.mem_append_right | with_reducible apply List.mem_cons_of_mem)))
                 | ((with_reducible refine AllocSt.mk ?_); intro _b _hb _hbO)
                 | ((with_reducible apply StoreSt.box); (· (repeat (first | exact Upd.hd | apply Upd.tl | apply Upd.app))); (· rfl); (· rfl); (· rfl)))
        exact FinSt.own (R := fun v O' => ER r _ _ v O') (by (try dsimp only); (try simp only [List.cons_append, List.nil_append]); (repeat (first | with_reducible exact List.Sublist.refl _ | with_reducible exact List.nil_sublist _ | with_reducible apply List.Sublist.cons_cons | with_reducible apply sub_app | apply List.Sublist.cons_cons | apply sub_app | with_reducible apply List.Sublist.cons | with_reducible apply sub_skip))) ⟨r2, hp2, rfl, hk2, rfl⟩
    · have e : d.write a s = (d, 1) := by simp only [Dk.write, he, hs, ne_eq, not_true_eq_false, not_false_eq_true, if_false, if_true]
      rw [e]
      unfold eHp
      rw [ho, Bool.not_false]
      refine GSpec.enter (fn := Try.f38) Try.func38 rfl (by kernel_rfl) ?_
      repeat' (conv => whnf
               first
               | (with_reducible refine NextSt.mk ?_)
               | (with_reducible refine OnBB.tt ?_)
               | (with_reducible refine OnBB.ff ?_)
               | ((with_reducible apply Cmp.yes); · first | omega | (with_reducible assumption) | (with_reducible rfl))
               | ((with_reducible apply Cmp.no); · first | omega | (with_reducible assumption))
               | ((with_reducible apply LoadSt.box); · (repeat (first | exact List.Mem.head _ | with_reducible apply List.mem_append_right | with_reducible apply List.mem_cons_of_mem))))
      refine FinSt.own (R := fun v O' => ER r _ _ v O') (List.Sublist.refl _) ⟨r, rfl, ?_, hk, rfl⟩
      unfold eHp
      rw [ho, Bool.not_false]
  · have e : d.write a s = (d, d.err a) := by simp only [Dk.write, ne_eq, he, not_false_eq_true, if_true]
    rw [e]
    cases ho : d.off
    · have hr : ¬ (0 ≤ a ∧ a < d.safe.length) := fun hr => he (by rw [Dk.err, ho]; simp [hr])
      rw [show d.err a = 1 from by rw [Dk.err, ho]; simp [hr]]
      unfold eHp
      rw [ho, Bool.not_false]
      refine GSpec.enter (fn := Try.f38) Try.func38 rfl (by kernel_rfl) ?_
      repeat' (conv => whnf
               first
               | (with_reducible refine NextSt.mk ?_)
               | (with_reducible refine OnBB.tt ?_)
               | (with_reducible refine OnBB.ff ?_)
               | ((with_reducible apply Cmp.yes); · first | omega | (with_reducible assumption) | (with_reducible rfl))
               | ((with_reducible apply LoadSt.box); · (repeat (first | exact List.Mem.head _ | with_reducible apply List.mem_append_right | with_reducible apply List.mem_cons_of_mem)))
               | ((with_reducible refine Cmp.mk ?_ ?_) <;> intro _hc))
      all_goals refine FinSt.own (R := fun v O' => ER r _ _ v O') (List.Sublist.refl _) ⟨r, rfl, ?_, hk, rfl⟩
      all_goals unfold eHp
      all_goals rw [ho, Bool.not_false]
    · rw [show d.err a = 93 from by rw [Dk.err, ho]; rfl]
      unfold eHp
      rw [ho, Bool.not_true]
      refine GSpec.enter (fn := Try.f38) Try.func38 rfl (by kernel_rfl) ?_
      repeat' (conv => whnf
               first
               | (with_reducible refine NextSt.mk ?_)
               | (with_reducible refine OnBB.tt ?_)
               | (with_reducible refine OnBB.ff ?_)
               | ((with_reducible apply LoadSt.box); · (repeat (first | exact List.Mem.head _ | with_reducible apply List.mem_append_right | with_reducible apply List.mem_cons_of_mem))))
      refine FinSt.own (R := fun v O' => ER r _ _ v O') (List.Sublist.refl _) ⟨r, rfl, ?_, hk, rfl⟩
      unfold eHp
      rw [ho, Bool.not_true]
theorem f107 (r : Dr) (d : Dk) (a : Nat) (ha : a < d.safe.length) (hz : d.safe.length ≤ 4096) (hf1 : d.waits.length < 1000000000) (hk : dOk r d) (h : View) : GSpec Try.prog 107 [dP r, iN a] h (eHp r d) (Ret (eHp r d) (sV (d.content a))) := by
  have hsb := hk.sb
  have hwb := hk.wb
  unfold eHp Dk.content
  refine GSpec.enter (fn := Try.f107) Try.func107 rfl (by kernel_rfl) ?_
  repeat' (conv => whnf
           first
           | (with_reducible refine NextSt.mk ?_)
           | ((with_reducible apply LoadSt.box); · (repeat (first | exact List.Mem.head _ | with_reducible apply List.mem_append_right | with_reducible apply List.mem_cons_of_mem)))
           | ((with_reducible apply LoadSt.rdS); (· (repeat (first | with_reducible assumption | (with_reducible apply Buf.rd; with_reducible assumption) | (with_reducible apply Rd.appL; with_reducible assumption) | (with_reducible apply Rd.appL; with_reducible apply Buf.rd; with_reducible assumption) | with_reducible apply Rd.cons | with_reducible apply Rd.appR))); · (first | omega | (simp only [List.length_map, List.length_append, List.length_cons, List.length_nil, List.length_take, List.length_drop, List.length_replicate, List.length_set] at *; omega)))
           | ((with_reducible apply IdxSl.buf1); (· with_reducible assumption); (· rfl); (· rfl); (· first | with_reducible rfl | exact natL _); · (first | omega | (simp only [List.length_map, List.length_append, List.length_cons, List.length_nil, List.length_take, List.length_drop, List.length_replicate, List.length_set] at *; omega))))
  refine LoopSt.fix [5, 6, 14, 15, 16, 17, 18, 19, 20, 21, 22, 23, 24, 25, 26, 27, 28, 29, 30, 31, 32, 33, 34, 35, 36, 37, 38, 39, 40] (fun (k : Nat) => [(5, sV (Dk.look (d.waits.take k) a (d.safe.getD a []))), (6, iN k)]) (fun _ => _) (fun k => k ≤ d.waits.length) (fun k => d.waits.length - k) (0) _ (Wk.refl _ _) (rfl) ?_ ?_ ?_
  · repeat' (first | exact True.intro | refine And.intro ?_ ?_ | rfl | exact congrArg (Value.int _) (by omega) | exact congrArg (fun n => Value.slice _ n _) (by (try dsimp only); omega))
  · exact Nat.zero_le _
  · intro k d' hk2
    by_cases hkl : k < d.waits.length
    · have hlt := Dk.look_take (i := a) (s := d.safe.getD a []) hkl
      repeat' (conv => whnf
               first
               | (((with_reducible apply LoadSt.rdf (g := wV) (s := 2)); (· (repeat (first | with_reducible assumption | (with_reducible apply Buf.rd; with_reducible assumption) | (with_reducible apply Rd.appL; with_reducible assumption) | (with_reducible apply Rd.appL; with_reducible apply Buf.rd; with_reducible assumption) | with_reducible apply Rd.cons | with_reducible apply Rd.appR))); (· exact fun _ => rfl); (· (first | omega | (simp only [List.length_map, List.length_append, List.length_cons, List.length_nil, List.length_take, List.length_drop, List.length_replicate, List.length_set] at *; omega))); (· decide)))
               | ((with_reducible apply IdxSl.bufm (s := 2)); (· with_reducible assumption); (· rfl); (· rfl); (· first | with_reducible rfl | exact natL _); · (first | omega | (simp only [List.length_map, List.length_append, List.length_cons, List.length_nil, List.length_take, List.length_drop, List.length_replicate, List.length_set] at *; omega)))
               | (with_reducible refine NextSt.mk ?_)
               | (with_reducible refine OnBB.tt ?_)
               | (with_reducible refine OnBB.ff ?_)
               | ((with_reducible apply NW.addN); (· first | with_reducible rfl | exact natL _); (· first | with_reducible rfl | exact natL _); (· omega))
               | ((with_reducible apply Cmp.yes); · first | omega | (with_reducible assumption) | (with_reducible rfl))
               | ((with_reducible apply LoadSt.box); · (repeat (first | exact List.Mem.head _ | with_reducible apply List.mem_append_right | with_reducible apply List.mem_cons_of_mem)))
               | ((with_reducible refine Cmp.mk ?_ ?_) <;> intro _hc))
      · rw [if_pos (by omega)] at hlt
        refine RoundFix.mk (k + 1) ?_ ?_ _ rfl (Wk.drop (by (try dsimp only); (try simp only [List.cons_append, List.nil_append]); (repeat (first | with_reducible exact List.Sublist.refl _ | with_reducible exact List.nil_sublist _ | with_reducible apply List.Sublist.cons_cons | with_reducible apply sub_app | apply List.Sublist.cons_cons | apply sub_app | with_reducible apply List.Sublist.cons | with_reducible apply sub_skip)))) ?_
        · omega
        · repeat' (first | exact True.intro | refine And.intro ?_ ?_ | exact congrArg sV hlt.symm | rfl | exact congrArg (Value.int _) (by omega) | exact congrArg (fun n => Value.slice _ n _) (by (try dsimp only); omega))
        · omega
      · rw [if_neg (by omega)] at hlt
        refine RoundFix.mk (k + 1) ?_ ?_ _ rfl (Wk.drop (by (try dsimp only); (try simp only [List.cons_append, List.nil_append]); (repeat (first | with_reducible exact List.Sublist.refl _ | with_reducible exact List.nil_sublist _ | with_reducible apply List.Sublist.cons_cons | with_reducible apply sub_app | apply List.Sublist.cons_cons | apply sub_app | with_reducible apply List.Sublist.cons | with_reducible apply sub_skip)))) ?_
        · omega
        · repeat' (first | exact True.intro | refine And.intro ?_ ?_ | exact congrArg sV hlt.symm | rfl | exact congrArg (Value.int _) (by omega) | exact congrArg (fun n => Value.slice _ n _) (by (try dsimp only); omega))
        · omega
    · rw [List.take_of_length_le (by omega)]
      repeat' (conv => whnf
               first
               | (with_reducible refine NextSt.mk ?_)
               | (with_reducible refine OnBB.ff ?_)
               | ((with_reducible apply Cmp.no); · first | omega | (with_reducible assumption))
               | ((with_reducible apply LoadSt.box); · (repeat (first | exact List.Mem.head _ | with_reducible apply List.mem_append_right | with_reducible apply List.mem_cons_of_mem))))
      conv => whnf
      refine FinSt.ret (by (try dsimp only); (try simp only [List.cons_append, List.nil_append]); (repeat (first | with_reducible exact List.Sublist.refl _ | with_reducible exact List.nil_sublist _ | with_reducible apply List.Sublist.cons_cons | with_reducible apply sub_app | apply List.Sublist.cons_cons | apply sub_app | with_reducible apply List.Sublist.cons | with_reducible apply sub_skip))) ?_
      rfl
theorem f42 (r : Dr) (d : Dk) (a : Int) (hd : d.ok) (hk : dOk r d) (h : View) : GSpec Try.prog 42 [dP r, .int .i64 a] h (eHp r d) (Ret (eHp r d) (strE (d.read a))) := by
  have hf1 := hd.few.1
  have hsz := hd.size
  by_cases he : d.err a = 0
  · obtain ⟨ho, a1, a2⟩ := err_ok he
    obtain ⟨a, rfl⟩ := nat_of a1
    have e107 := f107 r d a (by omega) hsz hf1 hk h
    rw [show d.read a = (d.content a, 0) from by simp only [Dk.read, he, if_true, Int.toNat_natCast]]
    unfold eHp at e107 ⊢
    rw [ho, Bool.not_false] at e107 ⊢
    refine GSpec.enter (fn := Try.f42) Try.func42 rfl (by kernel_rfl) ?_
    repeat' (conv => whnf
             first
             | ((with_reducible refine CallSt.rd (f := 107) (X := sV (d.content a)) ?_ ?_); (· exact e107))
             | (with_reducible refine NextSt.mk ?_)
             | (with_reducible refine OnBB.tt ?_)
             | (with_reducible refine OnBB.ff ?_)
             | ((with_reducible apply Cmp.no); · first | omega | (with_reducible assumption))
             | ((with_reducible apply LoadSt.box); · (repeat (first | exact List.Mem.head _ | with_reducible apply List.mem_append_right | with_reducible apply List.mem_cons_of_mem))))
    conv => whnf
    refine FinSt.ret (by (try dsimp only); (try simp only [List.cons_append, List.nil_append]); (repeat (first | with_reducible exact List.Sublist.refl _ | with_reducible exact List.nil_sublist _ | with_reducible apply List.Sublist.cons_cons | with_reducible apply sub_app | apply List.Sublist.cons_cons | apply sub_app | with_reducible apply List.Sublist.cons | with_reducible apply sub_skip))) ?_
    rfl
  · rw [show d.read a = ([], d.err a) from by simp only [Dk.read, he, if_false]]
    cases ho : d.off
    · have hr : ¬ (0 ≤ a ∧ a < d.safe.length) := fun hr => he (by rw [Dk.err, ho]; simp [hr])
      rw [show d.err a = 1 from by rw [Dk.err, ho]; simp [hr]]
      unfold eHp
      rw [ho, Bool.not_false]
      refine GSpec.enter (fn := Try.f42) Try.func42 rfl (by kernel_rfl) ?_
      repeat' (conv => whnf
               first
               | (with_reducible refine NextSt.mk ?_)
               | (with_reducible refine OnBB.tt ?_)
               | (with_reducible refine OnBB.ff ?_)
               | ((with_reducible apply Cmp.yes); · first | omega | (with_reducible assumption) | (with_reducible rfl))
               | ((with_reducible apply LoadSt.box); · (repeat (first | exact List.Mem.head _ | with_reducible apply List.mem_append_right | with_reducible apply List.mem_cons_of_mem)))
               | ((with_reducible refine Cmp.mk ?_ ?_) <;> intro _hc))
      all_goals (conv => whnf)
      all_goals refine FinSt.ret (by (try dsimp only); (try simp only [List.cons_append, List.nil_append]); (repeat (first | with_reducible exact List.Sublist.refl _ | with_reducible exact List.nil_sublist _ | with_reducible apply List.Sublist.cons_cons | with_reducible apply sub_app | apply List.Sublist.cons_cons | apply sub_app | with_reducible apply List.Sublist.cons | with_reducible apply sub_skip))) ?_
      all_goals rfl
    · rw [show d.err a = 93 from by rw [Dk.err, ho]; rfl]
      unfold eHp
      rw [ho, Bool.not_true]
      refine GSpec.enter (fn := Try.f42) Try.func42 rfl (by kernel_rfl) ?_
      repeat' (conv => whnf
               first
               | (with_reducible refine NextSt.mk ?_)
               | (with_reducible refine OnBB.tt ?_)
               | (with_reducible refine OnBB.ff ?_)
               | ((with_reducible apply LoadSt.box); · (repeat (first | exact List.Mem.head _ | with_reducible apply List.mem_append_right | with_reducible apply List.mem_cons_of_mem))))
      conv => whnf
      refine FinSt.ret (by (try dsimp only); (try simp only [List.cons_append, List.nil_append]); (repeat (first | with_reducible exact List.Sublist.refl _ | with_reducible exact List.nil_sublist _ | with_reducible apply List.Sublist.cons_cons | with_reducible apply sub_app | apply List.Sublist.cons_cons | apply sub_app | with_reducible apply List.Sublist.cons | with_reducible apply sub_skip))) ?_
      rfl
end Go.Proofs.Ytlbmlimaobkhpaa
/- Disks after a fall: what is stored of the writes that survive. No program in sight. -/
namespace Go.Proofs.Ytlbmlimaobkhpaa
set_option linter.unusedSimpArgs false
set_option linter.unusedVariables false
namespace Dk
theorem tear_snoc (w : Nat × Str) (k : UInt8) : ∀ (l : List ((Nat × Str) × UInt8)) (safe : List Str), tear safe (l ++ [(w, k)]) = (settle safe (l.map Prod.fst)).set w.1 (w.2.take (min k.toNat 64) ++ ((settle safe (l.map Prod.fst)).getD w.1 []).drop (min k.toNat 64))
  | [], _ => rfl
  | [(v, j)], safe => rfl
  | (v, j) :: x :: r, safe => by
    have := tear_snoc w k (x :: r) (safe.set v.1 v.2)
    exact this
theorem settle_getD (i : Nat) : ∀ (l : List (Nat × Str)) (s : List Str), i < s.length → (settle s l).getD i [] = look l i (s.getD i [])
  | [], _, _ => rfl
  | w :: l, s, h => by
    have e : (s.set w.1 w.2).getD i [] = if w.1 = i then w.2 else s.getD i [] := by
      simp only [List.getD_eq_getElem?_getD, List.getElem?_set]
      split
      · rename_i e; subst e; rw [if_pos h]; rfl
      · rfl
    show (settle (s.set w.1 w.2) l).getD i [] = look l i (if w.1 = i then w.2 else s.getD i [])
    rw [settle_getD i l _ (by rw [List.length_set]; exact h), e]
def KI (ws : List (Nat × Str)) (keep : Str) (i : Nat) : List ((Nat × Str) × UInt8) := ((ws.zip keep).take i).filter fun p => p.2 != 0
theorem KI_succ {ws : List (Nat × Str)} {keep : Str} {i : Nat} (h : i < ws.length) : KI ws keep (i + 1) = if i < keep.length ∧ keep.getD i 0 ≠ 0 then KI ws keep i ++ [(ws.getD i default, keep.getD i 0)] else KI ws keep i := by
  unfold KI
  by_cases hk : i < keep.length
  · have hz : i < (ws.zip keep).length := by rw [List.length_zip]; omega
    rw [List.take_succ_eq_append_getElem hz, List.filter_append, List.getElem_zip]
    have e1 : ws.getD i default = ws[i] := by rw [List.getD_eq_getElem?_getD, List.getElem?_eq_getElem h]; rfl
    have e2 : keep.getD i 0 = keep[i] := by rw [List.getD_eq_getElem?_getD, List.getElem?_eq_getElem hk]; rfl
    rw [e1, e2]
    by_cases h0 : keep[i] = 0
    · simp [h0]
    · simp [h0, hk]
  · have hz : (ws.zip keep).length ≤ i := by rw [List.length_zip]; omega
    rw [List.take_of_length_le (by omega), List.take_of_length_le hz, if_neg (fun h => hk h.1)]
theorem KI_all {ws : List (Nat × Str)} {keep : Str} {i : Nat} (h : min ws.length keep.length ≤ i) : KI ws keep i = kept ws keep := by
  unfold KI kept
  rw [List.take_of_length_le (by rw [List.length_zip]; exact h)]
theorem KI_mem {ws : List (Nat × Str)} {keep : Str} {i : Nat} {p : (Nat × Str) × UInt8} (h : p ∈ KI ws keep i) : p.1 ∈ ws :=
  (List.of_mem_zip (a := p.1) (b := p.2) (List.mem_of_mem_take (List.mem_filter.1 h).1)).1
theorem KI_len {ws : List (Nat × Str)} {keep : Str} {i : Nat} : (KI ws keep i).length ≤ ws.length := by
  refine Nat.le_trans (List.length_filter_le ..) ?_
  rw [List.length_take, List.length_zip]; omega
def tl (l : List ((Nat × Str) × UInt8)) : Nat := match l.getLast? with | some x => min x.2.toNat 64 | none => 0
theorem tl_snoc (l : List ((Nat × Str) × UInt8)) (x : (Nat × Str) × UInt8) : tl (l ++ [x]) = min x.2.toNat 64 := by simp [tl]
theorem tl_le (l : List ((Nat × Str) × UInt8)) : tl l ≤ 64 := by unfold tl; split <;> omega
/-- The last write of which something is kept; -1: none. -/
def lastI (keep : Str) : Nat → Int
  | 0 => -1
  | i + 1 => if keep.getD i 0 ≠ 0 then i else lastI keep i
theorem lastI_lt (keep : Str) : ∀ n, lastI keep n < n ∧ -1 ≤ lastI keep n
  | 0 => ⟨by simp [lastI], by simp [lastI]⟩
  | n + 1 => by
    have := lastI_lt keep n
    unfold lastI
    split <;> omega
theorem KI_last {ws : List (Nat × Str)} {keep : Str} : ∀ n, n ≤ ws.length → n ≤ keep.length → KI ws keep n = if lastI keep n = -1 then [] else KI ws keep (lastI keep n).toNat ++ [(ws.getD (lastI keep n).toNat default, keep.getD (lastI keep n).toNat 0)]
  | 0, _, _ => by simp [KI, lastI]
  | n + 1, h1, h2 => by
    rw [KI_succ (by omega)]
    by_cases h0 : keep.getD n 0 = 0
    · rw [if_neg (fun h => h.2 h0), KI_last n (by omega) (by omega)]
      have : lastI keep (n + 1) = lastI keep n := by rw [lastI, if_neg (by simpa using h0)]
      rw [this]
    · have e : lastI keep (n + 1) = n := by rw [lastI, if_pos h0]
      rw [if_pos ⟨by omega, h0⟩, e, if_neg (by omega), Int.toNat_natCast]
/-- The sectors behind so many rounds. -/
def sf (d : Dk) (keep : Str) (L : Int) (i : Nat) : List Str := if (i : Int) ≤ L then settle d.safe ((KI d.waits keep i).map Prod.fst) else tear d.safe (kept d.waits keep)
theorem sf_zero {d : Dk} {keep : Str} : sf d keep (lastI keep (min d.waits.length keep.length)) 0 = d.safe := by
  unfold sf
  split
  · rfl
  · rename_i h
    rw [← KI_all (Nat.le_refl _), KI_last _ (Nat.min_le_left ..) (Nat.min_le_right ..), if_pos]
    · rfl
    · have := (lastI_lt keep (min d.waits.length keep.length)).2
      omega
theorem sf_len {d : Dk} (hd : d.ok) {keep : Str} {L : Int} {i : Nat} (h : (i : Int) ≤ L) : (∀ x ∈ sf d keep L i, x.length = 64) ∧ (sf d keep L i).length = d.safe.length := by
  unfold sf
  rw [if_pos h]
  refine ⟨settle_ok _ _ hd.safe fun w hw => ?_, settle_length ..⟩
  obtain ⟨p, hp, rfl⟩ := List.mem_map.1 hw
  exact (hd.waits _ (KI_mem hp)).2
theorem set_getD {l : List Str} {i : Nat} : l.set i (l.getD i []) = l := by
  apply List.ext_getElem?
  intro j
  rw [List.getElem?_set, List.getD_eq_getElem?_getD]
  split
  · rename_i e; subst e
    split
    · rename_i h; rw [List.getElem?_eq_getElem h]; rfl
    · rename_i h; rw [List.getElem?_eq_none (by omega)]
  · rfl
theorem sf_step {d : Dk} (hd : d.ok) {keep : Str} {i K : Nat} (h : (i : Int) ≤ lastI keep (min d.waits.length keep.length))
    (hK : K = if (0 < (keep.getD i 0).toNat ∧ (i : Int) < lastI keep (min d.waits.length keep.length)) ∨ 64 < (keep.getD i 0).toNat then 64 else (keep.getD i 0).toNat) :
    (sf d keep (lastI keep (min d.waits.length keep.length)) i).set (d.waits.getD i default).1 ((d.waits.getD i default).2.take K ++ ((sf d keep (lastI keep (min d.waits.length keep.length)) i).getD (d.waits.getD i default).1 []).drop K) = sf d keep (lastI keep (min d.waits.length keep.length)) (i + 1) := by
  have hlt := lastI_lt keep (min d.waits.length keep.length)
  have hk1 := KI_last (ws := d.waits) (keep := keep) _ (Nat.min_le_left ..) (Nat.min_le_right ..)
  rw [KI_all (Nat.le_refl _)] at hk1
  have hsl := sf_len hd (keep := keep) h
  have hiw : i < d.waits.length := by omega
  have hw := hd.waits _ (getD_mem (d := default) hiw)
  have hlast : ∀ hne : lastI keep (min d.waits.length keep.length) ≠ -1, keep.getD (lastI keep (min d.waits.length keep.length)).toNat 0 ≠ 0 := by
    have : ∀ n, lastI keep n ≠ -1 → keep.getD (lastI keep n).toNat 0 ≠ 0 := by
      intro n
      induction n with
      | zero => intro h; exact absurd rfl h
      | succ n ih =>
        unfold lastI
        split
        · rename_i h; intro _; rw [Int.toNat_natCast]; exact h
        · exact ih
    exact this _
  generalize hL : lastI keep (min d.waits.length keep.length) = L at *
  rw [if_neg (by omega)] at hk1
  have hs : sf d keep L i = settle d.safe ((KI d.waits keep i).map Prod.fst) := if_pos h
  by_cases hi : (i : Int) < L
  · have hs1 : sf d keep L (i + 1) = settle d.safe ((KI d.waits keep (i + 1)).map Prod.fst) := if_pos (by omega)
    rw [hs1, KI_succ hiw]
    by_cases h0 : keep.getD i 0 = 0
    · rw [if_neg (fun h => h.2 h0), ← hs]
      rw [h0] at hK
      have : K = 0 := by rw [hK, if_neg (fun h => h.elim (fun h => absurd h.1 (by decide)) (fun h => absurd h (by decide)))]; rfl
      rw [this, List.take_zero, List.drop_zero, List.nil_append, set_getD]
    · have hp : 0 < (keep.getD i 0).toNat := Nat.pos_of_ne_zero fun e => h0 (UInt8.toNat_inj.1 e)
      rw [if_pos ⟨by omega, h0⟩, List.map_append, settle_app, ← hs]
      rw [if_pos (.inl ⟨hp, hi⟩)] at hK
      have hl : ((sf d keep L i).getD (d.waits.getD i default).1 []).length = 64 := hsl.1 _ (getD_mem (by rw [hsl.2]; exact hw.1))
      rw [hK, List.take_of_length_le (by omega), List.drop_of_length_le (by omega), List.append_nil]
      rfl
  · have e : L = i := by omega
    have hs1 : sf d keep L (i + 1) = tear d.safe (kept d.waits keep) := if_neg (by omega)
    have : K = min (keep.getD i 0).toNat 64 := by rw [hK]; split <;> omega
    have e2 : L.toNat = i := by omega
    rw [hs1, hk1, e2, tear_snoc, ← hs, this]
theorem sf_end {d : Dk} {keep : Str} {L : Int} {i : Nat} (h : L < i) : sf d keep L i = tear d.safe (kept d.waits keep) := if_neg (by omega)
theorem tear_len : ∀ (l : List ((Nat × Str) × UInt8)) (s : List Str), (tear s l).length = s.length
  | [], _ => rfl
  | [(w, k)], s => by simp [tear]
  | (w, k) :: x :: r, s => by
    show (tear (s.set w.1 w.2) (x :: r)).length = _
    rw [tear_len (x :: r), List.length_set]
theorem tear_ok : ∀ (l : List ((Nat × Str) × UInt8)) (s : List Str), (∀ x ∈ s, x.length = 64) → (∀ p ∈ l, p.1.1 < s.length ∧ p.1.2.length = 64) → ∀ x ∈ tear s l, x.length = 64
  | [], _, h, _ => h
  | [(w, k)], s, h, hl => by
    intro x hx
    have hw := hl _ (List.Mem.head _)
    have hg := h _ (getD_mem (d := []) hw.1)
    rcases List.mem_or_eq_of_mem_set hx with h1 | rfl
    · exact h _ h1
    · rw [List.length_append, List.length_take, List.length_drop]; simp only at hw hg; omega
  | (w, k) :: x :: r, s, h, hl => by
    have hw := hl _ (List.Mem.head _)
    refine tear_ok (x :: r) (s.set w.1 w.2) (fun y hy => ?_) (fun p hp => ?_)
    · rcases List.mem_or_eq_of_mem_set hy with h1 | rfl
      · exact h _ h1
      · exact hw.2
    · rw [List.length_set]; exact hl _ (List.mem_cons_of_mem _ hp)
end Dk
end Go.Proofs.Ytlbmlimaobkhpaa
/- The disks' writes at any length; the reference's sync. -/
namespace Go.Proofs.Ytlbmlimaobkhpaa
open Go Go.Gv
set_option maxRecDepth 100000
set_option maxHeartbeats 4000000
set_option linter.unusedSimpArgs false
set_option linter.unusedVariables false
theorem f40 (r : Dr) (d : Dk) (hd : d.ok) (hk : dOk r d) (h : View) : GSpec Try.prog 40 [dP r] h (eHp r d) (fun v _ O' => ER r d.sync.1 (.int .i64 d.sync.2) v O') := by
  have hf1 := hd.few.1
  have hsz := hd.size
  cases ho : d.off
  · have e105 := f105 r d ho hd.few.2 hd.armed hk h
    cases h2 : d.strike.2
    · have hsw : d.strike.1.safe = d.safe ∧ d.strike.1.waits = d.waits := by
        unfold Dk.strike; split
        · exact ⟨rfl, rfl⟩
        · split <;> exact ⟨rfl, rfl⟩
      have hoff : d.strike.1.off = false := by
        unfold Dk.strike at h2 ⊢
        split at h2
        · rename_i h0; rw [if_pos h0]; exact ho
        · rename_i h0
          rw [if_neg h0]
          split at h2
          · cases h2
          · rename_i h1; rw [if_neg h1]; exact ho
      have e : d.sync = ({ d.strike.1 with safe := Dk.settle d.strike.1.safe d.strike.1.waits, waits := [] }, 0) := by simp only [Dk.sync, ho, h2, Bool.false_eq_true, if_false, hsw]
      have hl2 : ∀ w ∈ d.strike.1.waits, w.1 < d.strike.1.safe.length := by rw [hsw.1, hsw.2]; exact fun w hw => (hd.waits w hw).1
      have hl3 : d.strike.1.waits.length < 1000000000 := by rw [hsw.2]; exact hf1
      have hl4 : d.strike.1.safe.length ≤ 4096 := by rw [hsw.1]; exact hsz
      rw [e]
      generalize d.strike.1 = D at *
      have hsl := fun k => Dk.settle_len (D.waits.take k) D.safe
      unfold eHp
      rw [ho, Bool.not_false]
      refine GSpec.enter (fn := Try.f40) Try.func40 rfl (by kernel_rfl) ?_
      repeat' (conv => whnf
               first
               | ((with_reducible apply CallSt.loc (f := 105) (H := eHp r d) (R := ER r D (.bool d.strike.2))); (· (unfold eHp; rw [ho]; exact Loc.last)); (· exact e105); rintro _ _ ⟨⟨p2, sb, wb⟩, hp2, rfl, hk2, rfl⟩; rw [h2]; (obtain rfl : p2 = r.p := hp2); unfold eHp; rw [hoff, Bool.not_false])
               | (with_reducible refine NextSt.mk ?_)
               | (with_reducible refine OnBB.tt ?_)
               | (with_reducible refine OnBB.ff ?_)
               | ((with_reducible apply LoadSt.box); · (repeat (first | exact List.Mem.head _ | with_reducible apply List.mem_append_right | with_reducible apply List.mem_cons_of_mem))))
      have hwb := hk2.wb
      refine LoopSt.fix [4, 13, 14, 15, 16, 17, 18, 19, 20, 21, 22, 23, 24, 25, 26, 27, 28, 29, 30, 31, 32, 33, 34, 35, 36, 37, 38, 39, 40, 41, 42] (fun (k : Nat) => [(4, iN k)]) (fun k => (r.p, .cells ⟨[.slice sb.a D.safe.length sb.cap, .slice wb.a D.waits.length wb.cap, .bool true, iN D.armed, iN D.falls]⟩ 145 (0, 0)) :: (sb.hp 9 ((Dk.settle D.safe (D.waits.take k)).map sV) ++ wb.hp 151 (D.waits.flatMap wV))) (fun k => k ≤ D.waits.length) (fun k => D.waits.length - k) (0) _ (Wk.refl _ _) (rfl) ?_ ?_ ?_
      · repeat' (first | exact True.intro | refine And.intro ?_ ?_ | rfl | exact congrArg (Value.int _) (by omega) | exact congrArg (fun n => Value.slice _ n _) (by (try dsimp only); omega))
      · exact Nat.zero_le _
      · intro k d' hk3
        have h1 := hsl k
        have hsb : sb.ok 1 ((Dk.settle D.safe (D.waits.take k)).map sV) D.safe.length := Buf.ok_len hk2.sb (by simp [h1])
        by_cases hkl : k < D.waits.length
        · have hm := hl2 _ (getD_mem (d := default) hkl)
          repeat' (conv => whnf
                   first
                   | (((with_reducible apply LoadSt.rdf (g := wV) (s := 2)); (· (repeat (first | with_reducible assumption | (with_reducible apply Buf.rd; with_reducible assumption) | (with_reducible apply Rd.appL; with_reducible assumption) | (with_reducible apply Rd.appL; with_reducible apply Buf.rd; with_reducible assumption) | with_reducible apply Rd.cons | with_reducible apply Rd.appR))); (· exact fun _ => rfl); (· (first | omega | (simp only [List.length_map, List.length_append, List.length_cons, List.length_nil, List.length_take, List.length_drop, List.length_replicate, List.length_set] at *; omega))); (· decide)))
                   | ((with_reducible refine DrawSt.walk [0, 1, 2, 3, 4, 5, 6, 7, 8, 9, 10, 11, 12, 13, 14, 15, 16, 17, 18, 19, 20, 21] mixed ?_ ?_); · decide +kernel)
                   | ((with_reducible apply IdxSl.bufm (s := 2)); (· with_reducible assumption); (· rfl); (· rfl); (· first | with_reducible rfl | exact natL _); · (first | omega | (simp only [List.length_map, List.length_append, List.length_cons, List.length_nil, List.length_take, List.length_drop, List.length_replicate, List.length_set] at *; omega)))
                   | (with_reducible refine NextSt.mk ?_)
                   | (with_reducible refine OnBB.tt ?_)
                   | ((with_reducible apply NW.addN); (· first | with_reducible rfl | exact natL _); (· first | with_reducible rfl | exact natL _); (· omega))
                   | ((with_reducible apply Cmp.yes); · first | omega | (with_reducible assumption) | (with_reducible rfl))
                   | ((with_reducible apply LoadSt.box); · (repeat (first | exact List.Mem.head _ | with_reducible apply List.mem_append_right | with_reducible apply List.mem_cons_of_mem)))
                   | ((with_reducible apply StoreSt.bufm); (· (repeat (first | with_reducible exact Loc.hd | with_reducible exact Loc.last | with_reducible exact Loc.one | with_reducible apply Loc.tl | with_reducible apply Loc.skip))); (· with_reducible assumption); (· (first | exact Nat.zero_add _ | with_reducible rfl | omega | (show _ + _ * 1 = _; omega))); (· rfl); (· (first | omega | (simp only [List.length_map, List.length_append, List.length_cons, List.length_nil, List.length_take, List.length_drop, List.length_replicate, List.length_set] at *; omega))); (· rfl))
                   | ((with_reducible apply IdxSl.buf1); (· with_reducible assumption); (· rfl); (· rfl); (· first | with_reducible rfl | exact natL _); · (first | omega | (simp only [List.length_map, List.length_append, List.length_cons, List.length_nil, List.length_take, List.length_drop, List.length_replicate, List.length_set] at *; omega))))
          rw [← Dk.settle_take hkl]
          refine RoundFix.mk (k + 1) ?_ ?_ _ rfl (Wk.drop (by (try dsimp only); (try simp only [List.cons_append, List.nil_append]); (repeat (first | with_reducible exact List.Sublist.refl _ | with_reducible exact List.nil_sublist _ | with_reducible apply List.Sublist.cons_cons | with_reducible apply sub_app | apply List.Sublist.cons_cons | apply sub_app | with_reducible apply List.Sublist.cons | with_reducible apply sub_skip)))) ?_
          · omega
          · repeat' (first | exact True.intro | refine And.intro ?_ ?_ | rfl | exact congrArg (Value.int _) (by omega) | exact congrArg (fun n => Value.slice _ n _) (by (try dsimp only); omega))
          · omega
        · have : k = D.waits.length := by omega
          subst this
          rw [List.take_length] at hsb h1 ⊢
          repeat' (conv => whnf
                   first
                   | (with_reducible refine NextSt.mk ?_)
                   | (with_reducible refine OnBB.ff ?_)
                   | ((with_reducible apply Cmp.no); · first | omega | (with_reducible assumption))
                   | ((with_reducible apply LoadSt.box); · (repeat (first | exact List.Mem.head _ | with_reducible apply List.mem_append_right | with_reducible apply List.mem_cons_of_mem)))
                   | ((with_reducible apply StoreSt.box); (· (repeat (first | exact Upd.hd | apply Upd.tl | apply Upd.app))); (· rfl); (· rfl); (· rfl)))
          refine FinSt.own (R := fun v O' => ER r _ _ v O') (List.Sublist.cons_cons _ ((List.Sublist.refl _).append (List.nil_sublist _))) ⟨⟨r.p, sb, Buf.nil⟩, rfl, ?_, ⟨?_, Buf.nil_ok 2⟩, rfl⟩
          · simp only [eHp, h1, hoff]
            rfl
          · show sb.ok 1 _ _
            rw [h1]; exact hsb
    · have e : d.sync = (d.strike.1, 93) := by simp only [Dk.sync, ho, h2, Bool.false_eq_true, if_false, if_true]
      rw [e]
      unfold eHp
      rw [ho, Bool.not_false]
      refine GSpec.enter (fn := Try.f40) Try.func40 rfl (by kernel_rfl) ?_
      repeat' (conv => whnf
               first
               | ((with_reducible apply CallSt.loc (f := 105) (H := eHp r d) (R := ER r d.strike.1 (.bool d.strike.2))); (· (unfold eHp; rw [ho]; exact Loc.last)); (· exact e105); rintro _ _ ⟨r2, hp2, rfl, hk2, rfl⟩; rw [h2])
               | (with_reducible refine NextSt.mk ?_)
               | (with_reducible refine OnBB.tt ?_)
               | (with_reducible refine OnBB.ff ?_)
               | ((with_reducible apply LoadSt.box); · (repeat (first | exact List.Mem.head _ | with_reducible apply List.mem_append_right | with_reducible apply List.mem_cons_of_mem))))
      exact FinSt.own (R := fun v O' => ER r _ _ v O') (List.Sublist.refl _) ⟨r2, hp2, rfl, hk2, rfl⟩
  · have e : d.sync = (d, 93) := by simp only [Dk.sync, ho, if_true]
    rw [e]
    unfold eHp
    rw [ho, Bool.not_true]
    refine GSpec.enter (fn := Try.f40) Try.func40 rfl (by kernel_rfl) ?_
    repeat' (conv => whnf
             first
             | (with_reducible refine NextSt.mk ?_)
             | (with_reducible refine OnBB.tt ?_)
             | (with_reducible refine OnBB.ff ?_)
             | ((with_reducible apply LoadSt.box); · (repeat (first | exact List.Mem.head _ | with_reducible apply List.mem_append_right | with_reducible apply List.mem_cons_of_mem))))
    refine FinSt.own (R := fun v O' => ER r _ _ v O') (List.Sublist.refl _) ⟨r, rfl, ?_, hk, rfl⟩
    unfold eHp
    rw [ho, Bool.not_true]
theorem f36L (r : Dr) (d : Dk) (a : Int) (s : Str) (hd : d.ok) (hsl : s.length ≤ 9223372036854775807) (hk : dOk r d) (h : View) : GSpec Try.prog 36 [dP r, .int .i64 a, sV s] h (dHp r d) (fun v _ O' => DR r (d.write a s).1 (.int .i64 (d.write a s).2) v O') := by
  have hf1 := hd.few.1
  have hf2 := hd.few.2
  have hfa := hd.armed
  by_cases he : d.err a = 0
  · by_cases hs : s.length = 64
    · obtain ⟨_, a1, a2⟩ := err_ok he
      obtain ⟨a, rfl⟩ := nat_of a1
      have e : d.write a s = ((Dk.strike { d with waits := d.waits ++ [(a, s)] }).1, if (Dk.strike { d with waits := d.waits ++ [(a, s)] }).2 then 93 else 0) := by
        simp only [Dk.write, he, hs, ne_eq, not_true_eq_false, if_false, Int.toNat_natCast]
      rw [e]
      have e103 := f103 r d a h
      rw [he] at e103
      cases h2 : (Dk.strike { d with waits := d.waits ++ [(a, s)] }).2
      all_goals
        have e104 := fun r' hk' => f104 r' { d with waits := d.waits ++ [(a, s)] } hf2 hfa hk' h
        have hlen : (d.waits ++ [(a, s)]).length = d.waits.length + 1 := by simp
        simp only [Bool.false_eq_true, if_false, if_true]
        unfold dHp
        refine GSpec.enter (fn := Try.f36) Try.func36 rfl (by kernel_rfl) ?_
        repeat' (conv => whnf
                 first
                 | ((with_reducible refine CallSt.rd (f := 103) (X := .int .i64 0) ?_ ?_); (· exact e103))
                 | ((with_reducible apply AppSt.litm (g := wV) (x := (a, s)) (s := 2) (z := .agg ⟨[.int .i64 0, .string ⟨⟨[]⟩⟩]⟩)); (· (repeat (first | with_reducible exact Loc.hd | with_reducible exact Loc.last | with_reducible exact Loc.one | with_reducible apply Loc.tl | with_reducible apply Loc.skip))); (· exact hk.wb); (· (repeat (first | exact List.Mem.head _ | with_reducible apply List.mem_append_right | with_reducible apply List.mem_cons_of_mem))); (· rfl); (· rfl); (· rfl); (· rfl); (· rfl); (· rfl); (· rfl); (· (show _ * 24 ≤ _; omega)); (· omega); intro wb' hwb'; rw [← hlen] at hwb' ⊢)
                 | ((with_reducible apply CallSt.loc (f := 104) (H := dHp ⟨r.p, r.sb, wb'⟩ { d with waits := d.waits ++ [(a, s)] }) (R := DR ⟨r.p, r.sb, wb'⟩ (Dk.strike { d with waits := d.waits ++ [(a, s)] }).1 (.bool (Dk.strike { d with waits := d.waits ++ [(a, s)] }).2))); (· exact Loc.tl Loc.last); (· exact e104 ⟨r.p, r.sb, wb'⟩ ⟨hk.sb, hwb'⟩); rintro _ _ ⟨r2, hp2, rfl, hk2, rfl⟩; rw [h2])
                 | (with_reducible refine NextSt.mk ?_)
                 | (with_reducible refine OnBB.tt ?_)
                 | (with_reducible refine OnBB.ff ?_)
                 | ((with_reducible apply Cmp.no); · first | omega | (with_reducible assumption))
                 | ((with_reducible apply LoadSt.box); · (repeat (first | exact List.Mem.head _ | with_reducible apply List.mem_append_right | with_reducible apply List.mem_cons_of_mem)))
                 | ((with_reducible refine AllocSt.mk ?_); intro _b _hb _hbO)
                 | ((with_reducible apply StoreSt.box); (· (repeat (first | exact Upd.hd | apply Upd.tl | apply Upd.app))); (· rfl); (· rfl); (· rfl)))
        exact FinSt.own (R := fun v O' => DR r _ _ v O') (by (try dsimp only); (try simp only [List.cons_append, List.nil_append]); (repeat (first | with_reducible exact List.Sublist.refl _ | with_reducible exact List.nil_sublist _ | with_reducible apply List.Sublist.cons_cons | with_reducible apply sub_app | apply List.Sublist.cons_cons | apply sub_app | with_reducible apply List.Sublist.cons | with_reducible apply sub_skip))) ⟨r2, hp2, rfl, hk2, rfl⟩
    · have e : d.write a s = (d, 1) := by simp only [Dk.write, he, hs, ne_eq, not_true_eq_false, not_false_eq_true, if_false, if_true]
      rw [e]
      have e103 := f103 r d a h
      rw [he] at e103
      unfold dHp
      refine GSpec.enter (fn := Try.f36) Try.func36 rfl (by kernel_rfl) ?_
      repeat' (conv => whnf
               first
               | ((with_reducible refine CallSt.rd (f := 103) (X := .int .i64 0) ?_ ?_); (· exact e103))
               | (with_reducible refine NextSt.mk ?_)
               | (with_reducible refine OnBB.tt ?_)
               | (with_reducible refine OnBB.ff ?_)
               | ((with_reducible apply Cmp.yes); · first | omega | (with_reducible assumption) | (with_reducible rfl))
               | ((with_reducible apply Cmp.no); · first | omega | (with_reducible assumption)))
      exact FinSt.own (R := fun v O' => DR r _ _ v O') (List.Sublist.refl _) ⟨r, rfl, rfl, hk, rfl⟩
  · have e : d.write a s = (d, d.err a) := by simp only [Dk.write, ne_eq, he, not_false_eq_true, if_true]
    rw [e]
    have e103 := f103 r d a h
    unfold dHp
    refine GSpec.enter (fn := Try.f36) Try.func36 rfl (by kernel_rfl) ?_
    repeat' (conv => whnf
             first
             | ((with_reducible refine CallSt.rd (f := 103) (X := .int .i64 (d.err a)) ?_ ?_); (· exact e103))
             | (with_reducible refine NextSt.mk ?_)
             | (with_reducible refine OnBB.tt ?_)
             | ((with_reducible apply Cmp.yes); · first | omega | (with_reducible assumption) | (with_reducible rfl)))
    exact FinSt.own (R := fun v O' => DR r _ _ v O') (List.Sublist.refl _) ⟨r, rfl, rfl, hk, rfl⟩
end Go.Proofs.Ytlbmlimaobkhpaa
/- Disks after a fall: the reference and the program. -/
namespace Go.Proofs.Ytlbmlimaobkhpaa
open Go Go.Gv
set_option maxRecDepth 100000
set_option maxHeartbeats 4000000
set_option linter.unusedSimpArgs false
set_option linter.unusedVariables false
theorem nb_get (l : Str) (i : Nat) : (nb l).getD i 0 = (l.getD i 0).toNat := by
  simp only [nb, List.getD_eq_getElem?_getD, List.getElem?_map]
  cases l[i]? <;> rfl
theorem f46 (r : Dr) (d : Dk) (keep : Str) (hd : d.ok) (hkl : keep.length ≤ 9223372036854775807) (hk : dOk r d) (h : View) : GSpec Try.prog 46 [dP r, sV keep] h (eHp r d) (fun v _ O' => ER r (d.restart keep) noV v O') := by
  have hf1 := hd.few.1
  have hf2 := hd.few.2
  have hsz := hd.size
  have hwb := hk.wb
  have hlt := Dk.lastI_lt keep (min d.waits.length keep.length)
  have hz := Dk.sf_zero (d := d) (keep := keep)
  cases ho : d.off
  all_goals
    unfold eHp
    rw [ho]
    first | rw [Bool.not_false] | rw [Bool.not_true]
    refine GSpec.enter (fn := Try.f46) Try.func46 rfl (by kernel_rfl) ?_
    repeat' (conv => whnf
             first
             | (with_reducible refine NextSt.mk ?_)
             | (with_reducible refine OnBB.tt ?_)
             | (with_reducible refine OnBB.ff ?_)
             | ((with_reducible apply NW.addN); (· first | with_reducible rfl | exact natL _); (· first | with_reducible rfl | exact natL _); (· omega))
             | ((with_reducible apply LoadSt.box); · (repeat (first | exact List.Mem.head _ | with_reducible apply List.mem_append_right | with_reducible apply List.mem_cons_of_mem)))
             | ((with_reducible apply StoreSt.box); (· (repeat (first | exact Upd.hd | apply Upd.tl | apply Upd.app))); (· rfl); (· rfl); (· rfl)))
    refine LoopSt.fix [4, 5, 20, 21, 22, 23, 24, 25, 26, 27, 28, 29, 30, 31, 32, 33, 34, 35, 36, 37, 38, 39] (fun (k : Nat) => [(4, .int .i64 (Dk.lastI keep k)), (5, iN k)]) (fun _ => _) (fun k => k ≤ d.waits.length ∧ k ≤ keep.length) (fun k => keep.length - k) (0) _ (Wk.refl _ _) (rfl) ?_ ?_ ?_
    · repeat' (first | exact True.intro | refine And.intro ?_ ?_ | rfl | exact congrArg (Value.int _) (by omega) | exact congrArg (fun n => Value.slice _ n _) (by (try dsimp only); omega))
    · exact ⟨Nat.zero_le _, Nat.zero_le _⟩
    · intro k d' hk2
      obtain ⟨hk2, hk3⟩ := hk2
      have hkb := nb_get keep k
      by_cases h1 : k < d.waits.length ∧ k < keep.length
      · repeat' (conv => whnf
                 first
                 | (with_reducible refine NextSt.mk ?_)
                 | (with_reducible refine OnBB.tt ?_)
                 | (with_reducible refine OnBB.ff ?_)
                 | ((with_reducible apply NW.addN); (· first | with_reducible rfl | exact natL _); (· first | with_reducible rfl | exact natL _); (· omega))
                 | ((with_reducible apply Cmp.yes); · first | omega | (with_reducible assumption) | (with_reducible rfl))
                 | ((with_reducible apply LoadSt.box); · (repeat (first | exact List.Mem.head _ | with_reducible apply List.mem_append_right | with_reducible apply List.mem_cons_of_mem)))
                 | ((with_reducible apply StrIdx.m); (· first | with_reducible rfl | exact natL _); · omega)
                 | ((with_reducible refine Cmp.mk ?_ ?_) <;> intro _hc))
        · have e : Dk.lastI keep (k + 1) = k := by
            rw [Dk.lastI, if_pos]
            intro e0
            rw [e0] at hkb
            have : (nb keep).getD k 0 = 0 := hkb
            omega
          refine RoundFix.mk (k + 1) ?_ ?_ _ rfl (Wk.drop (by (try dsimp only); (try simp only [List.cons_append, List.nil_append]); (repeat (first | with_reducible exact List.Sublist.refl _ | with_reducible exact List.nil_sublist _ | with_reducible apply List.Sublist.cons_cons | with_reducible apply sub_app | apply List.Sublist.cons_cons | apply sub_app | with_reducible apply List.Sublist.cons | with_reducible apply sub_skip)))) ?_
          · omega
          · repeat' (first | exact True.intro | refine And.intro ?_ ?_ | exact congrArg (Value.int _) e.symm | rfl | exact congrArg (Value.int _) (by omega) | exact congrArg (fun n => Value.slice _ n _) (by (try dsimp only); omega))
          · omega
        · have e : Dk.lastI keep (k + 1) = Dk.lastI keep k := by
            rw [Dk.lastI, if_neg]
            intro e0
            exact e0 (UInt8.toNat_inj.1 (by rw [← hkb]; show _ = 0; omega))
          refine RoundFix.mk (k + 1) ?_ ?_ _ rfl (Wk.drop (by (try dsimp only); (try simp only [List.cons_append, List.nil_append]); (repeat (first | with_reducible exact List.Sublist.refl _ | with_reducible exact List.nil_sublist _ | with_reducible apply List.Sublist.cons_cons | with_reducible apply sub_app | apply List.Sublist.cons_cons | apply sub_app | with_reducible apply List.Sublist.cons | with_reducible apply sub_skip)))) ?_
          · omega
          · repeat' (first | exact True.intro | refine And.intro ?_ ?_ | exact congrArg (Value.int _) e.symm | rfl | exact congrArg (Value.int _) (by omega) | exact congrArg (fun n => Value.slice _ n _) (by (try dsimp only); omega))
          · omega
      · have hkm : k = min d.waits.length keep.length := by omega
        rw [hkm]
        repeat' (conv => whnf
                 first
                 | (with_reducible refine NextSt.mk ?_)
                 | (with_reducible refine OnBB.tt ?_)
                 | (with_reducible refine OnBB.ff ?_)
                 | ((with_reducible apply Cmp.no); · first | omega | (with_reducible assumption))
                 | ((with_reducible apply LoadSt.box); · (repeat (first | exact List.Mem.head _ | with_reducible apply List.mem_append_right | with_reducible apply List.mem_cons_of_mem)))
                 | ((with_reducible refine Cmp.mk ?_ ?_) <;> intro _hc))
        all_goals
          refine LoopSt.fix [6, 7, 8, 40, 41, 42, 43, 44, 45, 46, 47, 48, 49, 50, 51, 52, 53, 54, 55, 56, 57, 58, 59, 60, 61, 62, 63, 64, 65, 66, 67, 68, 69, 70, 71, 72, 73, 74, 75, 76, 77, 78, 79, 80, 81, 82, 83, 84, 85, 86, 87, 88] (fun (i : Nat) => [(6, iN i)]) (fun i => (r.p, .cells ⟨[.slice r.sb.a d.safe.length r.sb.cap, .slice r.wb.a d.waits.length r.wb.cap, .bool (!d.off), iN d.armed, iN (if d.off then d.falls else d.falls + 1)]⟩ 145 (0, 0)) :: (r.sb.hp 9 ((Dk.sf d keep (Dk.lastI keep (min d.waits.length keep.length)) i).map sV) ++ r.wb.hp 151 (d.waits.flatMap wV))) (fun i => (i : Int) ≤ Dk.lastI keep (min d.waits.length keep.length) + 1) (fun i => (Dk.lastI keep (min d.waits.length keep.length) + 1 - i).toNat) (0) _ (Wk.refl _ _) ((by rw [hz, ho]; rfl)) ?_ ?_ ?_
          · repeat' (first | exact True.intro | refine And.intro ?_ ?_ | rfl | exact congrArg (Value.int _) (by omega) | exact congrArg (fun n => Value.slice _ n _) (by (try dsimp only); omega))
          · omega
          · intro i d2 hi
            by_cases hiL : (i : Int) ≤ Dk.lastI keep (min d.waits.length keep.length)
            · have hsf := Dk.sf_len (keep := keep) hd hiL
              have hsb : r.sb.ok 1 ((Dk.sf d keep (Dk.lastI keep (min d.waits.length keep.length)) i).map sV) d.safe.length := Buf.ok_len hk.sb (by simp [hsf.2])
              have hw := hd.waits _ (getD_mem (d := default) (show i < d.waits.length by omega))
              have hcur := hsf.1 _ (getD_mem (d := []) (show (d.waits.getD i default).1 < (Dk.sf d keep (Dk.lastI keep (min d.waits.length keep.length)) i).length by rw [hsf.2]; exact hw.1))
              have hib := nb_get keep i
              have hbl : (nb keep).getD i 0 < 256 := by rw [hib]; exact UInt8.toNat_lt _
              repeat' (conv => whnf
                       first
                       | ((with_reducible refine DrawSt.walk [0, 1, 2, 3, 4, 5, 6, 7, 8, 9, 10, 11, 12, 13, 14, 15, 16, 17, 18, 19, 20, 21, 22] mixed ?_ ?_); · decide +kernel)
                       | ((with_reducible apply LoadSt.rdg (g := wV) (s := 2)); (· rfl); (· (repeat (first | with_reducible assumption | (with_reducible apply Buf.rd; with_reducible assumption) | (with_reducible apply Rd.appL; with_reducible assumption) | (with_reducible apply Rd.appL; with_reducible apply Buf.rd; with_reducible assumption) | with_reducible apply Rd.cons | with_reducible apply Rd.appR))); (· exact fun _ => rfl); (· decide); · (first | omega | (simp only [List.length_map, List.length_append, List.length_cons, List.length_nil, List.length_take, List.length_drop, List.length_replicate, List.length_set] at *; omega)))
                       | ((with_reducible apply IdxSl.bufm (s := 2)); (· with_reducible assumption); (· rfl); (· rfl); (· first | with_reducible rfl | exact natL _); · (first | omega | (simp only [List.length_map, List.length_append, List.length_cons, List.length_nil, List.length_take, List.length_drop, List.length_replicate, List.length_set] at *; omega)))
                       | (with_reducible refine NextSt.mk ?_)
                       | (with_reducible refine OnBB.tt ?_)
                       | (with_reducible refine OnBB.ff ?_)
                       | ((with_reducible apply NW.addN); (· first | with_reducible rfl | exact natL _); (· first | with_reducible rfl | exact natL _); (· omega))
                       | ((with_reducible apply NW.i64N); (· first | with_reducible rfl | exact natL _); (· omega))
                       | ((with_reducible apply Cmp.yes); · first | omega | (with_reducible assumption) | (with_reducible rfl))
                       | ((with_reducible apply Cmp.no); · first | omega | (with_reducible assumption))
                       | ((with_reducible apply LoadSt.box); · (repeat (first | exact List.Mem.head _ | with_reducible apply List.mem_append_right | with_reducible apply List.mem_cons_of_mem)))
                       | ((with_reducible apply LoadSt.rdS); (· (repeat (first | with_reducible assumption | (with_reducible apply Buf.rd; with_reducible assumption) | (with_reducible apply Rd.appL; with_reducible assumption) | (with_reducible apply Rd.appL; with_reducible apply Buf.rd; with_reducible assumption) | with_reducible apply Rd.cons | with_reducible apply Rd.appR))); · (first | omega | (simp only [List.length_map, List.length_append, List.length_cons, List.length_nil, List.length_take, List.length_drop, List.length_replicate, List.length_set] at *; omega)))
                       | ((with_reducible refine AllocSt.mk ?_); intro _b _hb _hbO)
                       | ((with_reducible apply StoreSt.bufm); (· (repeat (first | with_reducible exact Loc.hd | with_reducible exact Loc.last | with_reducible exact Loc.one | with_reducible apply Loc.tl | with_reducible apply Loc.skip))); (· with_reducible assumption); (· (first | exact Nat.zero_add _ | with_reducible rfl | omega | (show _ + _ * 1 = _; omega))); (· rfl); (· (first | omega | (simp only [List.length_map, List.length_append, List.length_cons, List.length_nil, List.length_take, List.length_drop, List.length_replicate, List.length_set] at *; omega))); (· rfl))
                       | ((with_reducible apply StoreSt.box); (· (repeat (first | exact Upd.hd | apply Upd.tl | apply Upd.app))); (· rfl); (· rfl); (· rfl))
                       | ((with_reducible apply StrIdx.m); (· first | with_reducible rfl | exact natL _); · omega)
                       | ((with_reducible apply StrAdd.mk); · (first | omega | (simp only [List.length_map, List.length_append, List.length_cons, List.length_nil, List.length_take, List.length_drop, List.length_replicate, List.length_set] at *; omega)))
                       | ((with_reducible apply IdxSl.buf1); (· with_reducible assumption); (· rfl); (· rfl); (· first | with_reducible rfl | exact natL _); · (first | omega | (simp only [List.length_map, List.length_append, List.length_cons, List.length_nil, List.length_take, List.length_drop, List.length_replicate, List.length_set] at *; omega)))
                       | ((with_reducible apply StrSl.lo); (· first | with_reducible rfl | exact natL _); (· (first | omega | (simp only [List.length_map, List.length_append, List.length_cons, List.length_nil, List.length_take, List.length_drop, List.length_replicate, List.length_set] at *; omega))))
                       | ((with_reducible apply StrSl.hi); (· first | with_reducible rfl | exact natL _); (· (first | omega | (simp only [List.length_map, List.length_append, List.length_cons, List.length_nil, List.length_take, List.length_drop, List.length_replicate, List.length_set] at *; omega))))
                       | ((with_reducible refine Cmp.mk ?_ ?_) <;> intro _hc))
              all_goals first | rw [Dk.sf_step (K := 64) hd hiL (by rw [← hib, if_pos (by omega)])] | rw [Dk.sf_step (K := (nb keep).getD i 0) hd hiL (by rw [← hib, if_neg (by omega)])]
              all_goals
                refine RoundFix.mk (i + 1) ?_ ?_ _ rfl (Wk.drop (by (try dsimp only); (try simp only [List.cons_append, List.nil_append]); (repeat (first | with_reducible exact List.Sublist.refl _ | with_reducible exact List.nil_sublist _ | with_reducible apply List.Sublist.cons_cons | with_reducible apply sub_app | apply List.Sublist.cons_cons | apply sub_app | with_reducible apply List.Sublist.cons | with_reducible apply sub_skip)))) ?_
                · omega
                · repeat' (first | exact True.intro | refine And.intro ?_ ?_ | rfl | exact congrArg (Value.int _) (by omega) | exact congrArg (fun n => Value.slice _ n _) (by (try dsimp only); omega))
                · omega
            · rw [Dk.sf_end (by omega)]
              repeat' (conv => whnf
                       first
                       | (with_reducible refine NextSt.mk ?_)
                       | (with_reducible refine OnBB.ff ?_)
                       | ((with_reducible apply Cmp.no); · first | omega | (with_reducible assumption))
                       | ((with_reducible apply StoreSt.box); (· (repeat (first | exact Upd.hd | apply Upd.tl | apply Upd.app))); (· rfl); (· rfl); (· rfl)))
              refine FinSt.own (R := fun v O' => ER r _ noV v O') (List.Sublist.cons_cons _ ((List.Sublist.refl _).append (List.nil_sublist _))) ⟨⟨r.p, r.sb, Buf.nil⟩, rfl, ?_, ⟨?_, Buf.nil_ok 2⟩, rfl⟩
              · simp only [eHp, Dk.restart, ho, Dk.tear_len]
                rfl
              · have e : (d.restart keep).safe.length = d.safe.length := Dk.tear_len _ _
                show r.sb.ok 1 ((d.restart keep).safe.map sV) (d.restart keep).safe.length
                rw [e]
                exact Buf.ok_len hk.sb (by rw [List.length_map, List.length_map]; exact e)
end Go.Proofs.Ytlbmlimaobkhpaa
/- Disks after a fall: the program. -/
namespace Go.Proofs.Ytlbmlimaobkhpaa
open Go Go.Gv
set_option maxRecDepth 100000
set_option maxHeartbeats 4000000
set_option linter.unusedSimpArgs false
set_option linter.unusedVariables false
theorem nb_get' (l : Str) (i : Nat) : (nb l).getD i 0 = (l.getD i 0).toNat := by
  simp only [nb, List.getD_eq_getElem?_getD, List.getElem?_map]
  cases l[i]? <;> rfl
theorem copyT {s bs : Str} {K kk : Nat} (hK : K ≤ 64) (hs : s.length = 64) (hb : bs.length = 64) : ((nb bs ++ List.replicate kk 0).take 0 ++ ((s.take K).take (min (s.take K).length bs.length)).map UInt8.toNat ++ (nb bs ++ List.replicate kk 0).drop (0 + min (s.take K).length bs.length)) = nb (s.take K ++ bs.drop K) ++ List.replicate kk 0 := by
  have e : min (s.take K).length bs.length = K := by rw [List.length_take]; omega
  rw [e, Nat.zero_add, List.take_zero, List.nil_append, List.take_take, Nat.min_self, List.drop_append_of_le_length (by rw [nb, List.length_map]; omega)]
  simp [nb, List.map_drop]
theorem f45 (r : Dr) (d : Dk) (keep : Str) (hd : d.ok) (hkl : keep.length ≤ 9223372036854775807) (hk : dOk r d) (h : View) : GSpec Try.prog 45 [dP r, sV keep] h (dHp r d) (fun v _ O' => DR r (d.restart keep) noV v O') := by
  have e108 := f108 r d hd.few.2 hk h
  obtain ⟨D, hD⟩ : ∃ D, D = d.fall := ⟨_, rfl⟩
  have hres : d.restart keep = ⟨Dk.tear D.safe (Dk.kept D.waits keep), [], false, D.armed, D.falls⟩ := by rw [hD]; rfl
  have hsafe : ∀ x ∈ D.safe, x.length = 64 := by rw [hD]; exact hd.safe
  have hw : ∀ w ∈ D.waits, w.1 < D.safe.length ∧ w.2.length = 64 := by rw [hD]; exact hd.waits
  have hsz : D.safe.length ≤ 4096 := by rw [hD]; exact hd.size
  have hf1 : D.waits.length < 1000000000 := by rw [hD]; exact hd.few.1
  rw [← hD] at e108
  rw [hres]
  clear hres hD
  have hKe : Dk.KI D.waits keep D.waits.length = Dk.kept D.waits keep := Dk.KI_all (Nat.min_le_left ..)
  have hKm : ∀ p ∈ Dk.kept D.waits keep, p.1 ∈ D.waits := fun p hp => by rw [← hKe] at hp; exact Dk.KI_mem hp
  have hKl : (Dk.kept D.waits keep).length ≤ D.waits.length := by rw [← hKe]; exact Dk.KI_len
  refine GSpec.enter (fn := Try.f45) Try.func45 rfl (by kernel_rfl) ?_
  repeat' (conv => whnf
           first
           | ((with_reducible apply CallSt.loc (f := 108) (H := dHp r d) (R := DR r D noV)); (· exact Loc.last); (· exact e108); rintro _ _ ⟨⟨p2, sb, wb⟩, hp2, rfl, hk2, rfl⟩; (obtain rfl : p2 = r.p := hp2); unfold dHp)
           | (with_reducible refine NextSt.mk ?_)
           | ((with_reducible apply LoadSt.box); · (repeat (first | exact List.Mem.head _ | with_reducible apply List.mem_append_right | with_reducible apply List.mem_cons_of_mem))))
  have hsb := hk2.sb
  have hwb := hk2.wb
  refine LoopSt.fix [4, 5, 6, 7, 20, 21, 22, 23, 24, 25, 26, 27, 28, 29, 30, 31, 32, 33, 34, 35, 36, 37, 38, 39, 40, 41, 42, 43, 44] (fun ((i, kb) : Nat × Buf) => [(4, .slice kb.a (Dk.KI D.waits keep i).length kb.cap), (5, iN (Dk.tl (Dk.KI D.waits keep i))), (20, iN i)]) (fun (i, kb) => (r.p, .cells ⟨[.slice sb.a D.safe.length sb.cap, .slice wb.a D.waits.length wb.cap, .bool D.off, iN D.armed, iN D.falls]⟩ 141 (0, 0)) :: (sb.hp 9 (D.safe.map sV) ++ (wb.hp 149 (D.waits.flatMap wV) ++ kb.hp 149 (((Dk.KI D.waits keep i).map Prod.fst).flatMap wV)))) (fun (i, kb) => i ≤ D.waits.length ∧ kb.ok 2 (((Dk.KI D.waits keep i).map Prod.fst).flatMap wV) (Dk.KI D.waits keep i).length) (fun (i, kb) => D.waits.length - i) ((0, Buf.nil)) _ (Wk.refl _ _) ((by show _ = _ :: (_ ++ (_ ++ [])); rw [List.append_nil])) ?_ ?_ ?_
  · repeat' (first | exact True.intro | refine And.intro ?_ ?_ | rfl | exact congrArg (Value.int _) (by omega) | exact congrArg (fun n => Value.slice _ n _) (by (try dsimp only); omega))
  · exact ⟨Nat.zero_le _, Buf.nil_ok 2⟩
  · rintro ⟨i, kb⟩ d2 ⟨hi, hB⟩
    dsimp only at hi hB ⊢
    have hib := nb_get' keep i
    have hbl : (nb keep).getD i 0 < 256 := by rw [hib]; exact UInt8.toNat_lt _
    by_cases hin : i < D.waits.length
    · have hst := Dk.KI_succ (keep := keep) hin
      have hkl2 : (Dk.KI D.waits keep i).length ≤ D.waits.length := Dk.KI_len
      by_cases h2 : i < keep.length
      · by_cases h3 : (nb keep).getD i 0 = 0
        · rw [if_neg (fun h => h.2 (UInt8.toNat_inj.1 (by rw [← hib, h3]; rfl)))] at hst
          rw [← hst] at hB ⊢
          repeat' (conv => whnf
                   first
                   | ((with_reducible apply LoadSt.rdg (g := wV) (s := 2)); (· rfl); (· (repeat (first | with_reducible assumption | (with_reducible apply Buf.rd; with_reducible assumption) | (with_reducible apply Rd.appL; with_reducible assumption) | (with_reducible apply Rd.appL; with_reducible apply Buf.rd; with_reducible assumption) | with_reducible apply Rd.cons | with_reducible apply Rd.appR))); (· exact fun _ => rfl); (· decide); · (first | omega | (simp only [List.length_map, List.length_append, List.length_cons, List.length_nil, List.length_take, List.length_drop, List.length_replicate, List.length_set] at *; omega)))
                   | ((with_reducible apply IdxSl.bufm (s := 2)); (· with_reducible assumption); (· rfl); (· rfl); (· first | with_reducible rfl | exact natL _); · (first | omega | (simp only [List.length_map, List.length_append, List.length_cons, List.length_nil, List.length_take, List.length_drop, List.length_replicate, List.length_set] at *; omega)))
                   | (with_reducible refine NextSt.mk ?_)
                   | (with_reducible refine OnBB.tt ?_)
                   | (with_reducible refine OnBB.ff ?_)
                   | ((with_reducible apply NW.addN); (· first | with_reducible rfl | exact natL _); (· first | with_reducible rfl | exact natL _); (· omega))
                   | ((with_reducible apply Cmp.yes); · first | omega | (with_reducible assumption) | (with_reducible rfl))
                   | ((with_reducible apply Cmp.no); · first | omega | (with_reducible assumption))
                   | ((with_reducible refine AllocSt.mk ?_); intro _b _hb _hbO)
                   | ((with_reducible apply StoreSt.box); (· (repeat (first | exact Upd.hd | apply Upd.tl | apply Upd.app))); (· rfl); (· rfl); (· rfl))
                   | ((with_reducible apply StrIdx.m); (· first | with_reducible rfl | exact natL _); · omega))
          refine RoundFix.mk ((i + 1, kb)) ?_ ?_ _ rfl (Wk.drop (by (try dsimp only); (try simp only [List.cons_append, List.nil_append]); (repeat (first | with_reducible exact List.Sublist.refl _ | with_reducible exact List.nil_sublist _ | with_reducible apply List.Sublist.cons_cons | with_reducible apply sub_app | apply List.Sublist.cons_cons | apply sub_app | with_reducible apply List.Sublist.cons | with_reducible apply sub_skip)))) ?_
          · dsimp only; omega
          · repeat' (first | exact True.intro | refine And.intro ?_ ?_ | rfl | exact congrArg (Value.int _) (by omega) | exact congrArg (fun n => Value.slice _ n _) (by (try dsimp only); omega))
          · exact ⟨by omega, hB⟩
        · rw [if_pos ⟨h2, fun e => h3 (by rw [hib, e]; rfl)⟩] at hst
          repeat' (conv => whnf
                   first
                   | ((with_reducible apply AppSt.litm (g := wV) (x := D.waits.getD i default) (s := 2) (z := .agg ⟨[.int .i64 0, .string ⟨⟨[]⟩⟩]⟩)); (· (repeat (first | with_reducible exact Loc.hd | with_reducible exact Loc.last | with_reducible exact Loc.one | with_reducible apply Loc.tl | with_reducible apply Loc.skip))); (· exact hB); (· (repeat (first | exact List.Mem.head _ | with_reducible apply List.mem_append_right | with_reducible apply List.mem_cons_of_mem))); (· rfl); (· rfl); (· rfl); (· rfl); (· rfl); (· rfl); (· rfl); (· (show _ * 24 ≤ _; omega)); (· omega); intro kb' hkb')
                   | ((with_reducible apply LoadSt.rdg (g := wV) (s := 2)); (· rfl); (· (repeat (first | with_reducible assumption | (with_reducible apply Buf.rd; with_reducible assumption) | (with_reducible apply Rd.appL; with_reducible assumption) | (with_reducible apply Rd.appL; with_reducible apply Buf.rd; with_reducible assumption) | with_reducible apply Rd.cons | with_reducible apply Rd.appR))); (· exact fun _ => rfl); (· decide); · (first | omega | (simp only [List.length_map, List.length_append, List.length_cons, List.length_nil, List.length_take, List.length_drop, List.length_replicate, List.length_set] at *; omega)))
                   | ((with_reducible apply IdxSl.bufm (s := 2)); (· with_reducible assumption); (· rfl); (· rfl); (· first | with_reducible rfl | exact natL _); · (first | omega | (simp only [List.length_map, List.length_append, List.length_cons, List.length_nil, List.length_take, List.length_drop, List.length_replicate, List.length_set] at *; omega)))
                   | (with_reducible refine NextSt.mk ?_)
                   | (with_reducible refine OnBB.tt ?_)
                   | ((with_reducible apply NW.addN); (· first | with_reducible rfl | exact natL _); (· first | with_reducible rfl | exact natL _); (· omega))
                   | ((with_reducible apply NW.i64N); (· first | with_reducible rfl | exact natL _); (· omega))
                   | ((with_reducible apply Cmp.yes); · first | omega | (with_reducible assumption) | (with_reducible rfl))
                   | ((with_reducible apply LoadSt.boxAgg); · (repeat (first | exact List.Mem.head _ | with_reducible apply List.mem_append_right | with_reducible apply List.mem_cons_of_mem)))
                   | ((with_reducible refine AllocSt.mk ?_); intro _b _hb _hbO)
                   | ((with_reducible apply StoreSt.box); (· (repeat (first | exact Upd.hd | apply Upd.tl | apply Upd.app))); (· rfl); (· rfl); (· rfl))
                   | ((with_reducible apply MinMax.minN); (· first | with_reducible rfl | exact natL _); (· first | with_reducible rfl | exact natL _))
                   | ((with_reducible apply StrIdx.m); (· first | with_reducible rfl | exact natL _); · omega))
          have hl2 : (Dk.KI D.waits keep (i + 1)).length = (Dk.KI D.waits keep i).length + 1 := by rw [hst, List.length_append]; rfl
          have htl : Dk.tl (Dk.KI D.waits keep (i + 1)) = min ((nb keep).getD i 0) 64 := by rw [hst, Dk.tl_snoc, hib]
          rw [show (Dk.KI D.waits keep i).map Prod.fst ++ [D.waits.getD i default] = (Dk.KI D.waits keep (i + 1)).map Prod.fst from by rw [hst, List.map_append]; rfl] at hkb' ⊢
          rw [← hl2] at hkb'
          refine RoundFix.mk ((i + 1, kb')) ?_ ?_ _ rfl (Wk.drop (by (try dsimp only); (try simp only [List.cons_append, List.nil_append]); (repeat (first | with_reducible exact List.Sublist.refl _ | with_reducible exact List.nil_sublist _ | with_reducible apply List.Sublist.cons_cons | with_reducible apply sub_app | apply List.Sublist.cons_cons | apply sub_app | with_reducible apply List.Sublist.cons | with_reducible apply sub_skip)))) ?_
          · dsimp only; omega
          · repeat' (first | exact True.intro | refine And.intro ?_ ?_ | exact congrArg (fun n => Value.slice kb'.a n kb'.cap) hl2.symm | exact congrArg iN htl.symm | rfl | exact congrArg (Value.int _) (by omega) | exact congrArg (fun n => Value.slice _ n _) (by (try dsimp only); omega))
          · exact ⟨by omega, hkb'⟩
      · rw [if_neg (fun h => h2 h.1)] at hst
        rw [← hst] at hB ⊢
        repeat' (conv => whnf
                 first
                 | ((with_reducible apply LoadSt.rdg (g := wV) (s := 2)); (· rfl); (· (repeat (first | with_reducible assumption | (with_reducible apply Buf.rd; with_reducible assumption) | (with_reducible apply Rd.appL; with_reducible assumption) | (with_reducible apply Rd.appL; with_reducible apply Buf.rd; with_reducible assumption) | with_reducible apply Rd.cons | with_reducible apply Rd.appR))); (· exact fun _ => rfl); (· decide); · (first | omega | (simp only [List.length_map, List.length_append, List.length_cons, List.length_nil, List.length_take, List.length_drop, List.length_replicate, List.length_set] at *; omega)))
                 | ((with_reducible apply IdxSl.bufm (s := 2)); (· with_reducible assumption); (· rfl); (· rfl); (· first | with_reducible rfl | exact natL _); · (first | omega | (simp only [List.length_map, List.length_append, List.length_cons, List.length_nil, List.length_take, List.length_drop, List.length_replicate, List.length_set] at *; omega)))
                 | (with_reducible refine NextSt.mk ?_)
                 | (with_reducible refine OnBB.tt ?_)
                 | (with_reducible refine OnBB.ff ?_)
                 | ((with_reducible apply NW.addN); (· first | with_reducible rfl | exact natL _); (· first | with_reducible rfl | exact natL _); (· omega))
                 | ((with_reducible apply Cmp.yes); · first | omega | (with_reducible assumption) | (with_reducible rfl))
                 | ((with_reducible apply Cmp.no); · first | omega | (with_reducible assumption))
                 | ((with_reducible refine AllocSt.mk ?_); intro _b _hb _hbO)
                 | ((with_reducible apply StoreSt.box); (· (repeat (first | exact Upd.hd | apply Upd.tl | apply Upd.app))); (· rfl); (· rfl); (· rfl)))
        refine RoundFix.mk ((i + 1, kb)) ?_ ?_ _ rfl (Wk.drop (by (try dsimp only); (try simp only [List.cons_append, List.nil_append]); (repeat (first | with_reducible exact List.Sublist.refl _ | with_reducible exact List.nil_sublist _ | with_reducible apply List.Sublist.cons_cons | with_reducible apply sub_app | apply List.Sublist.cons_cons | apply sub_app | with_reducible apply List.Sublist.cons | with_reducible apply sub_skip)))) ?_
        · dsimp only; omega
        · repeat' (first | exact True.intro | refine And.intro ?_ ?_ | rfl | exact congrArg (Value.int _) (by omega) | exact congrArg (fun n => Value.slice _ n _) (by (try dsimp only); omega))
        · exact ⟨by omega, hB⟩
    · have : i = D.waits.length := by omega
      subst this
      rw [hKe] at hB ⊢
      generalize Dk.kept D.waits keep = Kp at *
      have hcc : Kp = [] ∨ ∃ l x, Kp = l ++ [x] := by
        rcases Kp.eq_nil_or_concat with h | ⟨l, x, h⟩
        · exact .inl h
        · exact .inr ⟨l, x, by rw [h, List.concat_eq_append]⟩
      rcases hcc with rfl | ⟨l, ⟨w, k⟩, rfl⟩
      · have hr106 : Rd h (wb.hp 149 (D.waits.flatMap wV) ++ kb.hp 149 ((([] : List ((Nat × Str) × UInt8)).map Prod.fst).flatMap wV)) kb.a (([] : List (Nat × Str)).flatMap wV) := Rd.appR (Buf.rd hB)
        have hl0 : ([] : List ((Nat × Str) × UInt8)).length = 0 := rfl
        rw [hl0] at hB ⊢
        repeat' (conv => whnf
                 first
                 | ((with_reducible apply CallSt.loc (f := 106) (H := dHpG ⟨r.p, sb, wb⟩ D (kb.hp 149 ((([] : List ((Nat × Str) × UInt8)).map Prod.fst).flatMap wV))) (R := fun v O' => ∃ r', r'.p = r.p ∧ O' = dHpG r' { D with safe := D.safe, waits := [] } (kb.hp 149 ((([] : List ((Nat × Str) × UInt8)).map Prod.fst).flatMap wV)) ∧ dOk r' { D with safe := D.safe, waits := [] } ∧ v = noV)); (· exact Loc.last); (· exact f106 ⟨r.p, sb, wb⟩ D _ [] kb.a kb.cap h (by simp) (by decide) hk2 hr106); rintro _ _ ⟨⟨p3, sb3, wb3⟩, hp3, rfl, hk3, rfl⟩; (obtain rfl : p3 = r.p := hp3); unfold dHpG)
                 | (with_reducible refine NextSt.mk ?_)
                 | (with_reducible refine OnBB.ff ?_)
                 | ((with_reducible apply NW.i64); · omega)
                 | ((with_reducible apply Cmp.no); · first | omega | (with_reducible assumption))
                 | ((with_reducible apply StoreSt.box); (· (repeat (first | exact Upd.hd | apply Upd.tl | apply Upd.app))); (· rfl); (· rfl); (· rfl)))
        exact FinSt.own (R := fun v O' => DR r _ noV v O') (List.Sublist.cons_cons _ ((List.Sublist.refl _).append (List.sublist_append_left _ _))) ⟨⟨r.p, sb3, wb3⟩, rfl, rfl, ⟨hk3.sb, hk3.wb⟩, rfl⟩
      · have hm := hKm (w, k) (by simp)
        have hwm := hw w hm
        have hll : (l ++ [(w, k)]).length = l.length + 1 := by simp
        have hlf : ((l ++ [(w, k)]).map Prod.fst) = l.map Prod.fst ++ [w] := by simp
        have hwd : (l.map Prod.fst ++ [w]).getD l.length default = w := by simp [List.getD_eq_getElem?_getD]
        have hwj : ∀ j < l.length, (l.map Prod.fst ++ [w]).getD j default = (l.map Prod.fst).getD j default := fun j hj => by
          simp only [List.getD_eq_getElem?_getD]; rw [List.getElem?_append_left (by simpa using hj)]
        have hlw : (l.map Prod.fst ++ [w]).length = l.length + 1 := by simp
        rw [Dk.tl_snoc, hll, hlf]
        rw [hlf, hll] at hB
        have hk64 : k.toNat < 256 := UInt8.toNat_lt _
        have hcp := Buf.le hB
        have hwdd : (l.map Prod.fst ++ [w]).getD (l.length + 1 - 1) default = w := by rw [Nat.add_sub_cancel]; exact hwd
        have hsl : (D.safe.getD w.1 []).length = 64 := hsafe _ (getD_mem hwm.1)
        have hlook : ∀ n, (Dk.look ((l.map Prod.fst).take n) w.1 (D.safe.getD w.1 [])).length = 64 := by
          intro n
          rw [← Dk.settle_getD _ _ _ hwm.1]
          refine Dk.settle_ok _ _ hsafe (fun v hv => ?_) _ (getD_mem (by rw [Dk.settle_length]; exact hwm.1))
          obtain ⟨p, hp, rfl⟩ := List.mem_map.1 (List.mem_of_mem_take hv)
          exact (hw _ (hKm p (by simp [hp]))).2
        repeat' (conv => whnf
                 first
                 | (((with_reducible apply LoadSt.rdf (g := wV) (s := 2)); (· (repeat (first | with_reducible assumption | (with_reducible apply Buf.rd; with_reducible assumption) | (with_reducible apply Rd.appL; with_reducible assumption) | (with_reducible apply Rd.appL; with_reducible apply Buf.rd; with_reducible assumption) | with_reducible apply Rd.cons | with_reducible apply Rd.appR))); (· exact fun _ => rfl); (· rw [hlw]; omega); (· decide)); rw [hwdd])
                 | ((with_reducible refine DrawSt.walk [0, 1, 2, 3, 4, 5, 6, 7, 8, 9, 10, 11] mixed ?_ ?_); · decide +kernel)
                 | ((with_reducible apply IdxSl.bufm (s := 2)); (· with_reducible assumption); (· rfl); (· rfl); (· first | with_reducible rfl | exact natL _); · (first | omega | (simp only [List.length_map, List.length_append, List.length_cons, List.length_nil, List.length_take, List.length_drop, List.length_replicate, List.length_set] at *; omega)))
                 | (with_reducible refine NextSt.mk ?_)
                 | (with_reducible refine OnBB.tt ?_)
                 | (with_reducible refine OnBB.ff ?_)
                 | ((with_reducible apply NW.subN); (· first | with_reducible rfl | exact natL _); (· first | with_reducible rfl | exact natL _); (· omega))
                 | ((with_reducible apply Cmp.yes); · first | omega | (with_reducible assumption) | (with_reducible rfl))
                 | ((with_reducible apply Cmp.no); · first | omega | (with_reducible assumption))
                 | ((with_reducible apply LoadSt.box); · (repeat (first | exact List.Mem.head _ | with_reducible apply List.mem_append_right | with_reducible apply List.mem_cons_of_mem)))
                 | ((with_reducible apply LoadSt.rdS); (· (repeat (first | with_reducible assumption | (with_reducible apply Buf.rd; with_reducible assumption) | (with_reducible apply Rd.appL; with_reducible assumption) | (with_reducible apply Rd.appL; with_reducible apply Buf.rd; with_reducible assumption) | with_reducible apply Rd.cons | with_reducible apply Rd.appR))); · (first | omega | (simp only [List.length_map, List.length_append, List.length_cons, List.length_nil, List.length_take, List.length_drop, List.length_replicate, List.length_set] at *; omega)))
                 | ((with_reducible apply IdxSl.buf1); (· with_reducible assumption); (· rfl); (· rfl); (· first | with_reducible rfl | exact natL _); · (first | omega | (simp only [List.length_map, List.length_append, List.length_cons, List.length_nil, List.length_take, List.length_drop, List.length_replicate, List.length_set] at *; omega)))
                 | ((with_reducible apply SlSl.hi); (· first | with_reducible rfl | exact natL _); (· (first | omega | (simp only [List.length_map, List.length_append, List.length_cons, List.length_nil, List.length_take, List.length_drop, List.length_replicate, List.length_set] at *; omega)))))
        refine LoopSt.fix [9, 11, 65, 66, 67, 68, 69, 70, 71, 72, 73, 74, 75, 76, 77, 78, 79] (fun (j : Nat) => [(9, sV (Dk.look ((l.map Prod.fst).take j) w.1 (D.safe.getD w.1 []))), (65, iN j)]) (fun _ => _) (fun j => j ≤ l.length) (fun j => l.length - j) (0) _ (Wk.refl _ _) (rfl) ?_ ?_ ?_
        · repeat' (first | exact True.intro | refine And.intro ?_ ?_ | rfl | exact congrArg (Value.int _) (by omega) | exact congrArg (fun n => Value.slice _ n _) (by (try dsimp only); omega))
        · exact Nat.zero_le _
        · intro j d3 hj
          by_cases hjl : j < l.length
          · have hwjj := hwj j hjl
            have hlk := Dk.look_take (i := w.1) (s := D.safe.getD w.1 []) (show j < (l.map Prod.fst).length by simpa using hjl)
            repeat' (conv => whnf
                     first
                     | (((with_reducible apply LoadSt.rdf (g := wV) (s := 2) (k := l.length + 1 - 1)); (· (repeat (first | with_reducible assumption | (with_reducible apply Buf.rd; with_reducible assumption) | (with_reducible apply Rd.appL; with_reducible assumption) | (with_reducible apply Rd.appL; with_reducible apply Buf.rd; with_reducible assumption) | with_reducible apply Rd.cons | with_reducible apply Rd.appR))); (· exact fun _ => rfl); (· rw [hlw]; omega); (· decide)); rw [hwdd])
                     | (((with_reducible apply IdxSl.rdg (g := wV) (s := 2)); (· exact Buf.rd (e := 149) (h := h) hB); (· exact fun _ => rfl); (· decide); (· rfl); (· first | with_reducible rfl | exact natL _); (· omega); · (rw [hlw]; omega)))
                     | (((with_reducible apply LoadSt.rdg (g := wV) (s := 2)); (· rfl); (· (repeat (first | with_reducible assumption | (with_reducible apply Buf.rd; with_reducible assumption) | (with_reducible apply Rd.appL; with_reducible assumption) | (with_reducible apply Rd.appL; with_reducible apply Buf.rd; with_reducible assumption) | with_reducible apply Rd.cons | with_reducible apply Rd.appR))); (· exact fun _ => rfl); (· decide); (· rw [hlw]; omega)); rw [hwjj])
                     | ((with_reducible refine DrawSt.walk [0, 1, 2, 3, 4, 5, 6, 7] mixed ?_ ?_); · decide +kernel)
                     | (with_reducible refine NextSt.mk ?_)
                     | (with_reducible refine OnBB.tt ?_)
                     | (with_reducible refine OnBB.ff ?_)
                     | ((with_reducible apply NW.addN); (· first | with_reducible rfl | exact natL _); (· first | with_reducible rfl | exact natL _); (· omega))
                     | ((with_reducible apply Cmp.yes); · first | omega | (with_reducible assumption) | (with_reducible rfl))
                     | ((with_reducible apply LoadSt.box); · (repeat (first | exact List.Mem.head _ | with_reducible apply List.mem_append_right | with_reducible apply List.mem_cons_of_mem)))
                     | ((with_reducible refine AllocSt.mk ?_); intro _b _hb _hbO)
                     | ((with_reducible apply StoreSt.box); (· (repeat (first | exact Upd.hd | apply Upd.tl | apply Upd.app))); (· rfl); (· rfl); (· rfl))
                     | ((with_reducible refine Cmp.mk ?_ ?_) <;> intro _hc))
            · rw [if_pos (by omega)] at hlk
              refine RoundFix.mk (j + 1) ?_ ?_ _ rfl (Wk.drop (by (try dsimp only); (try simp only [List.cons_append, List.nil_append]); (repeat (first | with_reducible exact List.Sublist.refl _ | with_reducible exact List.nil_sublist _ | with_reducible apply List.Sublist.cons_cons | with_reducible apply sub_app | apply List.Sublist.cons_cons | apply sub_app | with_reducible apply List.Sublist.cons | with_reducible apply sub_skip)))) ?_
              · omega
              · repeat' (first | exact True.intro | refine And.intro ?_ ?_ | exact congrArg sV hlk.symm | rfl | exact congrArg (Value.int _) (by omega) | exact congrArg (fun n => Value.slice _ n _) (by (try dsimp only); omega))
              · omega
            · rw [if_neg (by omega)] at hlk
              refine RoundFix.mk (j + 1) ?_ ?_ _ rfl (Wk.drop (by (try dsimp only); (try simp only [List.cons_append, List.nil_append]); (repeat (first | with_reducible exact List.Sublist.refl _ | with_reducible exact List.nil_sublist _ | with_reducible apply List.Sublist.cons_cons | with_reducible apply sub_app | apply List.Sublist.cons_cons | apply sub_app | with_reducible apply List.Sublist.cons | with_reducible apply sub_skip)))) ?_
              · omega
              · repeat' (first | exact True.intro | refine And.intro ?_ ?_ | exact congrArg sV hlk.symm | rfl | exact congrArg (Value.int _) (by omega) | exact congrArg (fun n => Value.slice _ n _) (by (try dsimp only); omega))
              · omega
          · rw [List.take_of_length_le (by rw [List.length_map]; omega)]
            have hlk := hlook l.length
            rw [List.take_of_length_le (by rw [List.length_map]; omega)] at hlk
            generalize hbs : Dk.look (l.map Prod.fst) w.1 (D.safe.getD w.1 []) = bs at *
            have hset : (l.map Prod.fst ++ [w]).set l.length (w.1, w.2.take (min k.toNat 64) ++ bs.drop (min k.toNat 64)) = l.map Prod.fst ++ [(w.1, w.2.take (min k.toNat 64) ++ bs.drop (min k.toNat 64))] := by
              rw [List.set_append_right _ _ (by simp)]; simp
            have htear : Dk.tear D.safe (l ++ [(w, k)]) = Dk.settle D.safe (l.map Prod.fst ++ [(w.1, w.2.take (min k.toNat 64) ++ bs.drop (min k.toNat 64))]) := by
              rw [Dk.tear_snoc, Dk.settle_app, Dk.settle_getD _ _ _ hwm.1, hbs]; rfl
            have hB2 : kb.ok 2 ((l.map Prod.fst ++ [(w.1, w.2.take (min k.toNat 64) ++ bs.drop (min k.toNat 64))]).flatMap wV) (l.length + 1) := Buf.ok_len hB (by simp [wV])
            have e106 := f106 ⟨r.p, sb, wb⟩ D (kb.hp 149 ((l.map Prod.fst ++ [(w.1, w.2.take (min k.toNat 64) ++ bs.drop (min k.toNat 64))]).flatMap wV)) (l.map Prod.fst ++ [(w.1, w.2.take (min k.toNat 64) ++ bs.drop (min k.toNat 64))]) kb.a kb.cap h
              (fun v hv => by
                rcases List.mem_append.1 hv with h1 | h1
                · obtain ⟨p, hp, rfl⟩ := List.mem_map.1 h1
                  exact (hw _ (hKm p (by simp [hp]))).1
                · rw [List.mem_singleton] at h1; subst h1; exact hwm.1)
              (by rw [List.length_append, List.length_map]; simp at hKl; simp; omega) hk2 (Rd.appR (Buf.rd hB2))
            rw [show (l.map Prod.fst ++ [(w.1, w.2.take (min k.toNat 64) ++ bs.drop (min k.toNat 64))]).length = l.length + 1 from by simp] at e106
            rw [htear]
            clear htear
            generalize l.map Prod.fst ++ [(w.1, w.2.take (min k.toNat 64) ++ bs.drop (min k.toNat 64))] = l2 at *
            repeat' (conv => whnf
                     first
                     | (((with_reducible apply LoadSt.rdf (g := wV) (s := 2) (k := l.length + 1 - 1)); (· (repeat (first | with_reducible assumption | (with_reducible apply Buf.rd; with_reducible assumption) | (with_reducible apply Rd.appL; with_reducible assumption) | (with_reducible apply Rd.appL; with_reducible apply Buf.rd; with_reducible assumption) | with_reducible apply Rd.cons | with_reducible apply Rd.appR))); (· exact fun _ => rfl); (· rw [hlw]; omega); (· decide)); rw [hwdd])
                     | ((apply BytesSt.nat; intro bb cp kk hcp2))
                     | ((show CopySt _ _ 1 (Value.slice (some ⟨bb, 0, none⟩) bs.length cp) (.string ⟨⟨w.2.take (min k.toNat 64)⟩⟩) _ _ _); refine CopySt.str (by (repeat (first | exact Upd.hd | apply Upd.tl | apply Upd.app))) (by rw [List.length_append, nb, List.length_map]; omega) (Or.inr (by show 0 + bs.length ≤ cp; omega)) ?_; rw [copyT (Nat.min_le_right ..) hwm.2 hlk])
                     | (refine ToStr.bytes (l := nb (w.2.take (min k.toNat 64) ++ bs.drop (min k.toNat 64))) (Rd.pre (by (repeat (first | exact List.Mem.head _ | with_reducible apply List.mem_append_right | with_reducible apply List.mem_cons_of_mem)))) (nb_byt _) (by rw [nb, List.length_map, List.length_append, List.length_take, List.length_drop]; omega) ?_; rw [nb_back])
                     | ((apply StoreSt.buff (g := wV) (s := 2) (i := l.length) (j := 1) (x := (w.1, w.2.take (min k.toNat 64) ++ bs.drop (min k.toNat 64)))); (· (repeat (first | with_reducible exact Loc.hd | with_reducible exact Loc.last | with_reducible exact Loc.one | with_reducible apply Loc.tl | with_reducible apply Loc.skip))); (· exact hB); (· exact fun _ => rfl); (· (show ofs kb.a + (l.length + 1 - 1) * 2 + 1 = _; rw [Nat.add_sub_cancel])); (· rfl); (· rw [hlw]; omega); (· decide); (· rw [hwd]; rfl); (· rfl); rw [hset])
                     | ((with_reducible apply CallSt.loc (f := 106) (H := dHpG ⟨r.p, sb, wb⟩ D (kb.hp 149 (l2.flatMap wV))) (R := fun v O' => ∃ r', r'.p = r.p ∧ O' = dHpG r' { D with safe := Dk.settle D.safe l2, waits := [] } (kb.hp 149 (l2.flatMap wV)) ∧ dOk r' { D with safe := Dk.settle D.safe l2, waits := [] } ∧ v = noV)); (· exact Loc.tl Loc.last); (· exact e106); rintro _ _ ⟨⟨p3, sb3, wb3⟩, hp3, rfl, hk3, rfl⟩; (obtain rfl : p3 = r.p := hp3); unfold dHpG)
                     | ((with_reducible apply IdxSl.bufm (s := 2)); (· with_reducible assumption); (· rfl); (· rfl); (· first | with_reducible rfl | exact natL _); · (first | omega | (simp only [List.length_map, List.length_append, List.length_cons, List.length_nil, List.length_take, List.length_drop, List.length_replicate, List.length_set] at *; omega)))
                     | (with_reducible refine NextSt.mk ?_)
                     | (with_reducible refine OnBB.ff ?_)
                     | ((with_reducible apply Cmp.no); · first | omega | (with_reducible assumption))
                     | ((with_reducible apply StoreSt.box); (· (repeat (first | exact Upd.hd | apply Upd.tl | apply Upd.app))); (· rfl); (· rfl); (· rfl))
                     | ((with_reducible apply StrSl.hiN); (· (first | omega | (simp only [List.length_map, List.length_append, List.length_cons, List.length_nil, List.length_take, List.length_drop, List.length_replicate, List.length_set] at *; omega)))))
            exact FinSt.own (R := fun v O' => DR r _ noV v O') (List.Sublist.cons _ (List.Sublist.cons_cons _ ((List.Sublist.refl _).append (List.sublist_append_left _ _)))) ⟨⟨r.p, sb3, wb3⟩, rfl, rfl, ⟨hk3.sb, hk3.wb⟩, rfl⟩
end Go.Proofs.Ytlbmlimaobkhpaa
/- The reference's disks are made; disks are compared. -/
namespace Go.Proofs.Ytlbmlimaobkhpaa
open Go Go.Gv
set_option maxRecDepth 100000
set_option maxHeartbeats 4000000
set_option linter.unusedSimpArgs false
set_option linter.unusedVariables false
def MadeE (n : Int) (v : Value) (H : Hp) : Prop :=
  if 1 ≤ n ∧ n ≤ 4096 then ∃ r, v = .tuple ⟨[dP r, .int .i64 0]⟩ ∧ H = eHp r (Dk.mk0 n.toNat) ∧ dOk r (Dk.mk0 n.toNat)
  else v = .tuple ⟨[.pointer none, .int .i64 1]⟩ ∧ H = []
theorem f35 (n : Int) (h : View) (O : Hp) : GSpec Try.prog 35 [.int .i64 n] h O (New O (MadeE n)) := by
  by_cases hn : 1 ≤ n ∧ n ≤ 4096
  · obtain ⟨n, rfl⟩ := nat_of (show 0 ≤ n by omega)
    have e102 : ∀ h O, GSpec Try.prog 102 [.int .i64 64] h O (Ret O (sV zs)) := fun h O => f102 64 (by decide) h O
    refine GSpec.enter (fn := Try.f35) Try.func35 rfl (by kernel_rfl) ?_
    repeat' (conv => whnf
             first
             | (((with_reducible refine AllocSt.mk ?_); intro pb _hpb _hpbO))
             | (with_reducible refine NextSt.mk ?_)
             | (with_reducible refine OnBB.ff ?_)
             | ((with_reducible apply Cmp.no); · first | omega | (with_reducible assumption)))
    refine LoopSt.fix [5, 14, 15, 16, 17, 18, 19, 20, 21, 22, 23, 24, 25, 26, 27, 28] (fun ((k, B) : Nat × Buf) => [(5, iN k)]) (fun (k, B) => (pb, .cells ⟨[.slice B.a k B.cap, .slice none 0 0, .bool true, iN 0, iN 0]⟩ 145 (0, 0)) :: (B.hp 9 ((List.replicate k zs).map sV) ++ O)) (fun (k, B) => k ≤ n ∧ B.ok 1 ((List.replicate k zs).map sV) k) (fun (k, B) => n - k) ((0, Buf.nil)) _ (Wk.refl _ _) (rfl) ?_ ?_ ?_
    · repeat' (first | exact True.intro | refine And.intro ?_ ?_ | rfl | exact congrArg (Value.int _) (by omega) | exact congrArg (fun n => Value.slice _ n _) (by (try dsimp only); omega))
    · exact ⟨Nat.zero_le _, Buf.nil_ok 1⟩
    · rintro ⟨k, B⟩ d ⟨hk, hB⟩
      dsimp only at hk hB ⊢
      by_cases hkn : k < n
      · repeat' (conv => whnf
                 first
                 | ((with_reducible refine CallG.rd (f := 102) (X := sV zs) ?_ ?_); (· exact e102 _ _))
                 | (((with_reducible apply AppSt.lit1 (g := sV) (x := zs) (z := .string ⟨⟨[]⟩⟩)); (· (repeat (first | with_reducible exact Loc.hd | with_reducible exact Loc.last | with_reducible exact Loc.one | with_reducible apply Loc.tl | with_reducible apply Loc.skip))); (· exact hB); (· (repeat (first | exact List.Mem.head _ | with_reducible apply List.mem_append_right | with_reducible apply List.mem_cons_of_mem))); (· rfl); (· rfl); (· rfl); (· rfl); (· rfl); (· rfl); (· (show _ * 16 ≤ _; omega)); (· omega); intro C hC))
                 | ((with_reducible refine DrawSt.walk [0, 1, 2, 3, 4, 5, 6, 7, 8, 9, 10] mixed ?_ ?_); · decide +kernel)
                 | (with_reducible refine NextSt.mk ?_)
                 | (with_reducible refine OnBB.tt ?_)
                 | ((with_reducible apply NW.addN); (· first | with_reducible rfl | exact natL _); (· first | with_reducible rfl | exact natL _); (· omega))
                 | ((with_reducible apply Cmp.yes); · first | omega | (with_reducible assumption) | (with_reducible rfl))
                 | ((with_reducible apply LoadSt.box); · (repeat (first | exact List.Mem.head _ | with_reducible apply List.mem_append_right | with_reducible apply List.mem_cons_of_mem)))
                 | ((with_reducible refine AllocSt.mk ?_); intro _b _hb _hbO)
                 | ((with_reducible apply StoreSt.box); (· (repeat (first | exact Upd.hd | apply Upd.tl | apply Upd.app))); (· rfl); (· rfl); (· rfl)))
        rw [show List.replicate k zs ++ [zs] = List.replicate (k + 1) zs from List.replicate_succ'.symm] at hC ⊢
        refine RoundFix.mk ((k + 1, C)) ?_ ?_ _ rfl (Wk.drop (by (try dsimp only); (try simp only [List.cons_append, List.nil_append]); (repeat (first | with_reducible exact List.Sublist.refl _ | with_reducible exact List.nil_sublist _ | with_reducible apply List.Sublist.cons_cons | with_reducible apply sub_app | apply List.Sublist.cons_cons | apply sub_app | with_reducible apply List.Sublist.cons | with_reducible apply sub_skip)))) ?_
        · dsimp only; omega
        · repeat' (first | exact True.intro | refine And.intro ?_ ?_ | rfl | exact congrArg (Value.int _) (by omega) | exact congrArg (fun n => Value.slice _ n _) (by (try dsimp only); omega))
        · exact ⟨by omega, hC⟩
      · have : k = n := by omega
        subst this
        repeat' (conv => whnf
                 first
                 | (with_reducible refine NextSt.mk ?_)
                 | (with_reducible refine OnBB.ff ?_)
                 | ((with_reducible apply Cmp.no); · first | omega | (with_reducible assumption)))
        refine FinSt.new (H := [(pb, .cells ⟨[.slice B.a k B.cap, .slice none 0 0, .bool true, iN 0, iN 0]⟩ 145 (0, 0))] ++ B.hp 9 ((List.replicate k zs).map sV)) (R := MadeE k) (by rw [List.append_assoc]; exact List.Sublist.refl _) ?_
        unfold MadeE
        rw [if_pos hn]
        have hm : Dk.mk0 (k : Int).toNat = Dk.mk0 k := rfl
        rw [hm]
        refine ⟨⟨pb, B, Buf.nil⟩, rfl, ?_, ⟨?_, Buf.nil_ok 2⟩⟩
        · simp only [eHp, Dk.mk0, List.length_replicate, List.length_nil]
          show _ = _ :: (_ ++ [])
          rw [List.append_nil]
          rfl
        · show B.ok 1 ((List.replicate k zs).map sV) (List.replicate k zs).length
          rw [List.length_replicate]
          exact hB
  · refine GSpec.enter (fn := Try.f35) Try.func35 rfl (by kernel_rfl) ?_
    repeat' (conv => whnf
             first
             | (with_reducible refine NextSt.mk ?_)
             | (with_reducible refine OnBB.tt ?_)
             | (with_reducible refine OnBB.ff ?_)
             | ((with_reducible apply Cmp.yes); · first | omega | (with_reducible assumption) | (with_reducible rfl))
             | ((with_reducible refine Cmp.mk ?_ ?_) <;> intro _hc))
    all_goals
      conv => whnf
      refine FinSt.new (H := []) (R := MadeE n) (by (try dsimp only); (try simp only [List.cons_append, List.nil_append]); (repeat (first | with_reducible exact List.Sublist.refl _ | with_reducible exact List.nil_sublist _ | with_reducible apply List.Sublist.cons_cons | with_reducible apply sub_app | apply List.Sublist.cons_cons | apply sub_app | with_reducible apply List.Sublist.cons | with_reducible apply sub_skip))) ?_
      unfold MadeE
      rw [if_neg hn]
      exact ⟨rfl, rfl⟩
theorem f51 (r s : Dr) (d : Dk) (O : Hp) {φ ψ : Hp → Hp} (lr : Gv.Loc O (dHp r d) φ) (ls : Gv.Loc O (eHp s d) ψ) (hd : d.ok) (hr : dOk r d) (hs : dOk s d) (h : View) : GSpec Try.prog 51 [dP r, dP s] h O (Ret O (.bool true)) := by
  have hsz := hd.size
  have l49 := fun h => GSpec.locRet (H := dHp r d) (O := O) lr (f49 r d h)
  have l50 := fun h => GSpec.locRet (H := eHp s d) (O := O) ls (f50 s d h)
  have l47 := fun h => GSpec.locRet (H := dHp r d) (O := O) lr (f47 r d h)
  have l48 := fun h => GSpec.locRet (H := eHp s d) (O := O) ls (f48 s d h)
  have l41 := fun a h => GSpec.locRet (H := dHp r d) (O := O) lr (f41 r d a hd.few.1 hr h)
  have l42 := fun a h => GSpec.locRet (H := eHp s d) (O := O) ls (f42 s d a hd hs h)
  generalize (!d.off) = u at *
  cases u
  · refine GSpec.enter (fn := Try.f51) Try.func51 rfl (by kernel_rfl) ?_
    repeat' (conv => whnf
             first
             | ((with_reducible refine CallSt.rd (f := 49) (X := iN d.safe.length) ?_ ?_); (· exact l49 _))
             | ((with_reducible refine CallSt.rd (f := 50) (X := iN d.safe.length) ?_ ?_); (· exact l50 _))
             | ((with_reducible refine CallSt.rd (f := 47) (X := .bool false) ?_ ?_); (· exact l47 _))
             | ((with_reducible refine CallSt.rd (f := 48) (X := .bool false) ?_ ?_); (· exact l48 _))
             | (with_reducible refine NextSt.mk ?_)
             | (with_reducible refine OnBB.tt ?_)
             | (with_reducible refine OnBB.ff ?_)
             | ((with_reducible apply Cmp.no); · first | omega | (with_reducible assumption))
             | ((with_reducible refine OnBB.mk ?_ ?_) <;> intro _hc))
    rotate_left
    · cases _hc
    refine LoopSt.fix [4, 5, 6, 7, 8, 9, 22, 23, 24, 25, 26, 27, 28, 29, 30, 31, 32, 33, 34, 35, 36, 37, 38, 39, 40, 41, 42, 43, 44, 45, 46, 47] (fun (k : Nat) => [(5, iN k)]) (fun _ => _) (fun k => k ≤ d.safe.length) (fun k => d.safe.length - k) (0) _ (Wk.refl _ _) (rfl) ?_ ?_ ?_
    · repeat' (first | exact True.intro | refine And.intro ?_ ?_ | rfl | exact congrArg (Value.int _) (by omega) | exact congrArg (fun n => Value.slice _ n _) (by (try dsimp only); omega))
    · exact Nat.zero_le _
    · intro k d2 hk
      by_cases hkl : k < d.safe.length
      · have m41 := l41 k
        have m42 := l42 k
        generalize d.read k = q at *
        obtain ⟨q1, q2⟩ := q
        repeat' (conv => whnf
                 first
                 | ((with_reducible refine CallSt.rd (f := 50) (X := iN d.safe.length) ?_ ?_); (· exact l50 _))
                 | ((with_reducible refine CallSt.rd (f := 41) (X := strE (q1, q2)) ?_ ?_); (· exact m41 _))
                 | ((with_reducible refine CallSt.rd (f := 42) (X := strE (q1, q2)) ?_ ?_); (· exact m42 _))
                 | (((with_reducible apply Cmp.no); · exact fun h => h rfl))
                 | (with_reducible refine NextSt.mk ?_)
                 | (with_reducible refine OnBB.tt ?_)
                 | (with_reducible refine OnBB.ff ?_)
                 | ((with_reducible apply NW.addN); (· first | with_reducible rfl | exact natL _); (· first | with_reducible rfl | exact natL _); (· omega))
                 | ((with_reducible apply Cmp.yes); · first | omega | (with_reducible assumption) | (with_reducible rfl)))
        refine RoundFix.mk (k + 1) ?_ ?_ _ rfl (Wk.drop (by (try dsimp only); (try simp only [List.cons_append, List.nil_append]); (repeat (first | with_reducible exact List.Sublist.refl _ | with_reducible exact List.nil_sublist _ | with_reducible apply List.Sublist.cons_cons | with_reducible apply sub_app | apply List.Sublist.cons_cons | apply sub_app | with_reducible apply List.Sublist.cons | with_reducible apply sub_skip)))) ?_
        · omega
        · repeat' (first | exact True.intro | refine And.intro ?_ ?_ | rfl | exact congrArg (Value.int _) (by omega) | exact congrArg (fun n => Value.slice _ n _) (by (try dsimp only); omega))
        · omega
      · repeat' (conv => whnf
                 first
                 | ((with_reducible refine CallSt.rd (f := 50) (X := iN d.safe.length) ?_ ?_); (· exact l50 _))
                 | (with_reducible refine NextSt.mk ?_)
                 | (with_reducible refine OnBB.ff ?_)
                 | ((with_reducible apply Cmp.no); · first | omega | (with_reducible assumption)))
        conv => whnf
        refine FinSt.ret (by (try dsimp only); (try simp only [List.cons_append, List.nil_append]); (repeat (first | with_reducible exact List.Sublist.refl _ | with_reducible exact List.nil_sublist _ | with_reducible apply List.Sublist.cons_cons | with_reducible apply sub_app | apply List.Sublist.cons_cons | apply sub_app | with_reducible apply List.Sublist.cons | with_reducible apply sub_skip))) ?_
        rfl
  · refine GSpec.enter (fn := Try.f51) Try.func51 rfl (by kernel_rfl) ?_
    repeat' (conv => whnf
             first
             | ((with_reducible refine CallSt.rd (f := 49) (X := iN d.safe.length) ?_ ?_); (· exact l49 _))
             | ((with_reducible refine CallSt.rd (f := 50) (X := iN d.safe.length) ?_ ?_); (· exact l50 _))
             | ((with_reducible refine CallSt.rd (f := 47) (X := .bool true) ?_ ?_); (· exact l47 _))
             | ((with_reducible refine CallSt.rd (f := 48) (X := .bool true) ?_ ?_); (· exact l48 _))
             | (with_reducible refine NextSt.mk ?_)
             | (with_reducible refine OnBB.tt ?_)
             | (with_reducible refine OnBB.ff ?_)
             | ((with_reducible apply Cmp.no); · first | omega | (with_reducible assumption))
             | ((with_reducible refine OnBB.mk ?_ ?_) <;> intro _hc))
    rotate_left
    · cases _hc
    refine LoopSt.fix [4, 5, 6, 7, 8, 9, 22, 23, 24, 25, 26, 27, 28, 29, 30, 31, 32, 33, 34, 35, 36, 37, 38, 39, 40, 41, 42, 43, 44, 45, 46, 47] (fun (k : Nat) => [(5, iN k)]) (fun _ => _) (fun k => k ≤ d.safe.length) (fun k => d.safe.length - k) (0) _ (Wk.refl _ _) (rfl) ?_ ?_ ?_
    · repeat' (first | exact True.intro | refine And.intro ?_ ?_ | rfl | exact congrArg (Value.int _) (by omega) | exact congrArg (fun n => Value.slice _ n _) (by (try dsimp only); omega))
    · exact Nat.zero_le _
    · intro k d2 hk
      by_cases hkl : k < d.safe.length
      · have m41 := l41 k
        have m42 := l42 k
        generalize d.read k = q at *
        obtain ⟨q1, q2⟩ := q
        repeat' (conv => whnf
                 first
                 | ((with_reducible refine CallSt.rd (f := 50) (X := iN d.safe.length) ?_ ?_); (· exact l50 _))
                 | ((with_reducible refine CallSt.rd (f := 41) (X := strE (q1, q2)) ?_ ?_); (· exact m41 _))
                 | ((with_reducible refine CallSt.rd (f := 42) (X := strE (q1, q2)) ?_ ?_); (· exact m42 _))
                 | (((with_reducible apply Cmp.no); · exact fun h => h rfl))
                 | (with_reducible refine NextSt.mk ?_)
                 | (with_reducible refine OnBB.tt ?_)
                 | (with_reducible refine OnBB.ff ?_)
                 | ((with_reducible apply NW.addN); (· first | with_reducible rfl | exact natL _); (· first | with_reducible rfl | exact natL _); (· omega))
                 | ((with_reducible apply Cmp.yes); · first | omega | (with_reducible assumption) | (with_reducible rfl)))
        refine RoundFix.mk (k + 1) ?_ ?_ _ rfl (Wk.drop (by (try dsimp only); (try simp only [List.cons_append, List.nil_append]); (repeat (first | with_reducible exact List.Sublist.refl _ | with_reducible exact List.nil_sublist _ | with_reducible apply List.Sublist.cons_cons | with_reducible apply sub_app | apply List.Sublist.cons_cons | apply sub_app | with_reducible apply List.Sublist.cons | with_reducible apply sub_skip)))) ?_
        · omega
        · repeat' (first | exact True.intro | refine And.intro ?_ ?_ | rfl | exact congrArg (Value.int _) (by omega) | exact congrArg (fun n => Value.slice _ n _) (by (try dsimp only); omega))
        · omega
      · repeat' (conv => whnf
                 first
                 | ((with_reducible refine CallSt.rd (f := 50) (X := iN d.safe.length) ?_ ?_); (· exact l50 _))
                 | (with_reducible refine NextSt.mk ?_)
                 | (with_reducible refine OnBB.ff ?_)
                 | ((with_reducible apply Cmp.no); · first | omega | (with_reducible assumption)))
        conv => whnf
        refine FinSt.ret (by (try dsimp only); (try simp only [List.cons_append, List.nil_append]); (repeat (first | with_reducible exact List.Sublist.refl _ | with_reducible exact List.nil_sublist _ | with_reducible apply List.Sublist.cons_cons | with_reducible apply sub_app | apply List.Sublist.cons_cons | apply sub_app | with_reducible apply List.Sublist.cons | with_reducible apply sub_skip))) ?_
        rfl
end Go.Proofs.Ytlbmlimaobkhpaa
/- RadioDisks: the walk. -/
namespace Go.Proofs.Ytlbmlimaobkhpaa
open Go Go.Gv
set_option maxRecDepth 100000
set_option maxHeartbeats 4000000
set_option linter.unusedSimpArgs false
set_option linter.unusedVariables false
structure Dop where
  kind : Int
  n : Int
  s : Str
instance : Inhabited Dop := ⟨⟨0, 0, []⟩⟩
def dopV (x : Dop) : List Value := [.int .i64 x.kind, .int .i64 x.n, sV x.s]
/-- What one operation does to a disk. -/
def dopD (x : Dop) (d : Dk) : Dk :=
  if x.kind = 0 then (d.write x.n (secV x.s)).1 else if x.kind = 1 then d.sync.1 else if x.kind = 2 then d else if x.kind = 3 then d.arm x.n else if x.kind = 4 then d.restart x.s else d
def dopI (l : List Dop) (d : Dk) (k : Nat) : Dk := (l.take k).foldl (fun d x => dopD x d) d
theorem dopI_succ {l : List Dop} {d : Dk} {k : Nat} (h : k < l.length) : dopI l d (k + 1) = dopD (l.getD k default) (dopI l d k) := by
  unfold dopI
  rw [take_succ (d := default) h, List.foldl_append]; rfl
namespace Dk
structure okk (d : Dk) (k : Nat) : Prop where
  ok : d.ok
  w : d.waits.length ≤ k
  f : d.falls ≤ k
theorem strike_okk {d : Dk} {k : Nat} (h : d.ok) (hw : d.waits.length ≤ k + 1) (hf : d.falls ≤ k) (hk : k < 1000) : d.strike.1.okk (k + 1) := by
  unfold strike
  split
  · exact ⟨h, hw, by show d.falls ≤ _; omega⟩
  · split
    · refine ⟨⟨h.safe, h.waits, h.size, Nat.zero_le _, ⟨by show d.waits.length < _; omega, ?_⟩⟩, hw, ?_⟩
      · show (if d.off then d.falls else d.falls + 1) < _; split <;> omega
      · show (if d.off then d.falls else d.falls + 1) ≤ _; split <;> omega
    · exact ⟨⟨h.safe, h.waits, h.size, by have := h.armed; show d.armed - 1 ≤ _; omega, h.few⟩, hw, by show d.falls ≤ _; omega⟩
theorem okk.up {d : Dk} {k : Nat} (h : d.okk k) : d.okk (k + 1) := ⟨h.ok, by have := h.w; omega, by have := h.f; omega⟩
theorem dop_okk {d : Dk} {k : Nat} (x : Dop) (h : d.okk k) (hk : k < 1000) (hn : -9223372036854775808 ≤ x.n ∧ x.n ≤ 9223372036854775807) : (dopD x d).okk (k + 1) := by
  have hw := h.w
  have hf := h.f
  unfold dopD
  split
  · unfold write
    split
    · exact h.up
    · rename_i he
      split
      · exact h.up
      · rename_i hs
        have he : d.err x.n = 0 := Decidable.byContradiction fun e => he e
        have hs : (secV x.s).length = 64 := Decidable.byContradiction fun e => hs e
        have ha : 0 ≤ x.n ∧ x.n < d.safe.length := by
          unfold err at he
          split at he
          · cases he
          · split at he
            · rename_i q; exact q
            · cases he
        refine strike_okk ⟨h.ok.safe, fun w hw => ?_, h.ok.size, h.ok.armed, ⟨by show (d.waits ++ _).length < _; rw [List.length_append]; simp; omega, h.ok.few.2⟩⟩ (by show (d.waits ++ _).length ≤ _; rw [List.length_append]; simp; omega) hf hk
        rcases List.mem_append.1 hw with h1 | h1
        · exact h.ok.waits w h1
        · rw [List.mem_singleton] at h1; subst h1
          exact ⟨by show x.n.toNat < d.safe.length; omega, hs⟩
  · split
    · unfold sync
      split
      · exact h.up
      · have hs := strike_okk h.ok (by omega) hf hk
        split
        · exact hs
        · refine ⟨⟨settle_ok _ _ h.ok.safe fun w hw => (h.ok.waits w hw).2, fun w hw => (by cases hw), by show (settle _ _).length ≤ _; rw [settle_length]; exact h.ok.size, hs.ok.armed, ⟨by show (0 : Nat) < _; decide, hs.ok.few.2⟩⟩, Nat.zero_le _, hs.f⟩
    · split
      · exact h.up
      · split
        · exact ⟨⟨h.ok.safe, h.ok.waits, h.ok.size, by show x.n.toNat ≤ _; omega, h.ok.few⟩, by show d.waits.length ≤ _; omega, by show d.falls ≤ _; omega⟩
        · split
          · refine ⟨⟨tear_ok _ _ h.ok.safe fun p hp => ?_, fun w hw => (by cases hw), by show (tear _ _).length ≤ _; rw [tear_len]; exact h.ok.size, Nat.zero_le _, ⟨by show (0 : Nat) < _; decide, ?_⟩⟩, Nat.zero_le _, ?_⟩
            · exact h.ok.waits _ (by rw [← KI_all (i := d.waits.length) (Nat.min_le_left ..)] at hp; exact KI_mem hp)
            · show (if d.off then d.falls else d.falls + 1) < _; split <;> omega
            · show (if d.off then d.falls else d.falls + 1) ≤ _; split <;> omega
          · exact h.up
end Dk
theorem mk0_okk (n : Nat) (hn : n ≤ 4096) : (Dk.mk0 n).okk 0 :=
  ⟨⟨fun x hx => (by rw [List.eq_of_mem_replicate hx]; rfl), fun w hw => (by cases hw), by show (List.replicate n zs).length ≤ _; rw [List.length_replicate]; exact hn, Nat.zero_le _, ⟨by show (0 : Nat) < _; decide, by show (0 : Nat) < _; decide⟩⟩, Nat.zero_le _, Nat.zero_le _⟩
theorem dopI_okk {l : List Dop} {d : Dk} (hd : d.okk 0) (hl : l.length ≤ 60) (hq : ∀ x ∈ l, -9223372036854775808 ≤ x.n ∧ x.n ≤ 9223372036854775807) : ∀ k, k ≤ l.length → (dopI l d k).okk k
  | 0, _ => hd
  | k + 1, h => by
    rw [dopI_succ (by omega)]
    exact Dk.dop_okk _ (dopI_okk hd hl hq k (by omega)) (by omega) (hq _ (getD_mem (by omega)))
theorem secV_len {s : Str} (h : s.length ≤ 9223372036854775807) : (secV s).length ≤ 9223372036854775807 := by
  unfold secV
  split
  · rw [List.length_append, List.length_replicate]; omega
  · exact h
end Go.Proofs.Ytlbmlimaobkhpaa
/- RadioDisks: the walk. -/
namespace Go.Proofs.Ytlbmlimaobkhpaa
open Go Go.Gv
set_option maxRecDepth 100000
set_option maxHeartbeats 4000000
set_option linter.unusedSimpArgs false
set_option linter.unusedVariables false
theorem f7 (n : Int) (l : List Dop) (a : Option Addr) (c : Nat) (hl : l.length ≤ 9223372036854775807) (hq : ∀ x ∈ l, (-9223372036854775808 ≤ x.n ∧ x.n ≤ 9223372036854775807) ∧ x.s.length ≤ 9223372036854775807) (h : View) (O : Hp) (hr : Rd h O a (l.flatMap dopV)) :
    GSpec Try.prog 7 [.int .i64 n, .slice a l.length c] h O (Ret O (.bool true)) := by
  by_cases hg : (n ≤ 8 ∨ 4096 < n) ∧ l.length ≤ 60
  · by_cases hn : 1 ≤ n ∧ n ≤ 4096
    · refine GSpec.enter (fn := Try.f7) Try.func7 rfl (by kernel_rfl) ?_
      repeat' (conv => whnf
               first
               | ((with_reducible refine CallSt.rd (f := 17) (X := .bool true) ?_ ?_); (· exact f17 _ _))
               | (((with_reducible apply OnBB.yes); · rfl))
               | (((with_reducible apply OnBB.no); · rfl))
               | ((apply CallSt.new (f34 n _ _); rintro _ _ hm; unfold MadeD at hm; rw [if_pos hn] at hm; obtain ⟨r0, rfl, rfl, hr0⟩ := hm))
               | ((apply CallSt.new (f35 n _ _); rintro _ _ hm; unfold MadeE at hm; rw [if_pos hn] at hm; obtain ⟨s0, rfl, rfl, hs0⟩ := hm))
               | (with_reducible refine NextSt.mk ?_)
               | ((with_reducible apply Cmp.no); · first | omega | (with_reducible assumption)))
      obtain ⟨n, rfl⟩ := nat_of (show 0 ≤ n by omega)
      rw [Int.toNat_natCast] at *
      have hD := mk0_okk n (by omega)
      refine LoopSt.fix [4, 9, 10, 11, 12, 13, 14, 54, 55, 56, 57, 58, 59, 60, 61, 62, 63, 64, 65, 66, 67, 68, 69, 70, 71, 72, 73, 74, 75, 76, 77, 78, 79, 80, 81, 82, 83, 84, 85, 86, 87, 88, 89, 90, 91, 92, 93, 94, 95, 96, 97, 98, 99, 100, 101, 102, 103, 104, 105, 106, 107, 108, 109, 110, 111, 112, 113, 114, 115, 116, 117, 118, 119, 120, 121, 122, 123, 124, 125, 126, 127, 128, 129, 130, 131, 132, 133, 134, 135, 136, 137, 138, 139, 140, 141, 142, 143, 144, 145] (fun ((k, r, s) : Nat × Dr × Dr) => [(9, iN k)]) (fun (k, r, s) => eHp s (dopI l (Dk.mk0 n) k) ++ (dHp r (dopI l (Dk.mk0 n) k) ++ O)) (fun (k, r, s) => k ≤ l.length ∧ r.p = r0.p ∧ s.p = s0.p ∧ dOk r (dopI l (Dk.mk0 n) k) ∧ dOk s (dopI l (Dk.mk0 n) k)) (fun (k, r, s) => l.length - k) ((0, r0, s0)) _ (Wk.refl _ _) (rfl) ?_ ?_ ?_
      · repeat' (first | exact True.intro | refine And.intro ?_ ?_ | rfl | exact congrArg (Value.int _) (by omega) | exact congrArg (fun n => Value.slice _ n _) (by (try dsimp only); omega))
      · exact ⟨Nat.zero_le _, rfl, rfl, hr0, hs0⟩
      · rintro ⟨k, r, s⟩ d2 ⟨hk, hrp, hsp, hkr, hks⟩
        dsimp only at hk hrp hsp hkr hks ⊢
        have hok := dopI_okk hD hg.2 (fun x hx => (hq x hx).1) k hk
        by_cases hkl : k < l.length
        · have hst := dopI_succ (d := Dk.mk0 n) hkl
          have hqk := hq _ (getD_mem (d := default) hkl)
          generalize dopI l (Dk.mk0 n) k = d at *
          obtain ⟨⟨ki, xn, xs⟩, hx⟩ : ∃ x, x = l.getD k default := ⟨_, rfl⟩
          rw [← hx] at hst hqk
          obtain ⟨hqn, hqs⟩ := hqk
          simp only at hqn hqs
          have hsec := secV_len hqs
          have hd := hok.ok
          obtain ⟨rp, rsb, rwb⟩ := r
          obtain ⟨sp, ssb, swb⟩ := s
          simp only at hrp hsp
          subst hrp hsp
          by_cases h0 : ki = 0
          · subst h0
            rw [show dopD ⟨0, xn, xs⟩ d = (d.write xn (secV xs)).1 from rfl] at hst
            repeat' (conv => whnf
                     first
                     | (((with_reducible apply LoadSt.rdg (g := dopV) (s := 3)); (· rfl); (· (repeat (first | with_reducible assumption | (with_reducible apply Buf.rd; with_reducible assumption) | (with_reducible apply Rd.appL; with_reducible assumption) | (with_reducible apply Rd.appL; with_reducible apply Buf.rd; with_reducible assumption) | with_reducible apply Rd.cons | with_reducible apply Rd.appR))); (· exact fun _ => rfl); (· decide); (· (first | omega | (simp only [List.length_map, List.length_append, List.length_cons, List.length_nil, List.length_take, List.length_drop, List.length_replicate, List.length_set] at *; omega)))); rw [← hx])
                     | (((with_reducible refine DrawSt.walkF ([(_b, .cells ⟨[.int .i64 0, .int .i64 xn, sV xs]⟩ 53 (0, 0))]) [0,1,2,3,4,5,6,7,8,9,10,11,12,13,14] mixed ?_ ?_ ?_); (· decide +kernel); (· (try dsimp only); (try simp only [List.cons_append, List.nil_append]); (repeat (first | with_reducible exact List.Sublist.refl _ | with_reducible exact List.nil_sublist _ | with_reducible apply List.Sublist.cons_cons | with_reducible apply sub_app | apply List.Sublist.cons_cons | apply sub_app | with_reducible apply List.Sublist.cons | with_reducible apply sub_skip)))))
                     | ((with_reducible refine CallSt.rd (f := 37) (X := sV (secV xs)) ?_ ?_); (· exact f37 xs hqs _ _))
                     | (((with_reducible apply CallSt.loc (f := 36) (H := dHp _ d)); (· (repeat (first | with_reducible exact Loc.hd | with_reducible exact Loc.last | with_reducible exact Loc.one | with_reducible apply Loc.tl | with_reducible apply Loc.skip))); (· exact f36L _ d xn (secV xs) hd hsec hkr _); rintro _ _ ⟨⟨p3, sb3, wb3⟩, hp3, rfl, hk3, rfl⟩; (obtain rfl : p3 = _ := hp3)))
                     | (((with_reducible apply CallSt.loc (f := 38) (H := eHp _ d)); (· (repeat (first | with_reducible exact Loc.hd | with_reducible exact Loc.last | with_reducible exact Loc.one | with_reducible apply Loc.tl | with_reducible apply Loc.skip))); (· exact f38 _ d xn (secV xs) hd hsec hks _); rintro _ _ ⟨⟨p4, sb4, wb4⟩, hp4, rfl, hk4, rfl⟩; (obtain rfl : p4 = _ := hp4)))
                     | (((with_reducible apply CallSt.rd (f := 47)); (· (apply GSpec.locRet (H := dHp _ _)); (· (repeat (first | with_reducible exact Loc.hd | with_reducible exact Loc.last | with_reducible exact Loc.one | with_reducible apply Loc.tl | with_reducible apply Loc.skip))); (· exact f47 _ _ _))))
                     | (((with_reducible apply CallSt.rd (f := 48)); (· (apply GSpec.locRet (H := eHp _ _)); (· (repeat (first | with_reducible exact Loc.hd | with_reducible exact Loc.last | with_reducible exact Loc.one | with_reducible apply Loc.tl | with_reducible apply Loc.skip))); (· exact f48 _ _ _))))
                     | (((with_reducible apply CallSt.rd (f := 49)); (· (apply GSpec.locRet (H := dHp _ _)); (· (repeat (first | with_reducible exact Loc.hd | with_reducible exact Loc.last | with_reducible exact Loc.one | with_reducible apply Loc.tl | with_reducible apply Loc.skip))); (· exact f49 _ _ _))))
                     | (((with_reducible apply CallSt.rd (f := 50)); (· (apply GSpec.locRet (H := eHp _ _)); (· (repeat (first | with_reducible exact Loc.hd | with_reducible exact Loc.last | with_reducible exact Loc.one | with_reducible apply Loc.tl | with_reducible apply Loc.skip))); (· exact f50 _ _ _))))
                     | (((with_reducible apply OnBB.yes); · exact beq_self_eq_true _))
                     | (((with_reducible apply Cmp.no); · exact fun h => h rfl))
                     | ((with_reducible apply IdxSl.rdg (g := dopV) (s := 3)); (· with_reducible assumption); (· exact fun _ => rfl); (· decide); (· rfl); (· first | with_reducible rfl | exact natL _); (· (first | omega | (simp only [List.length_map, List.length_append, List.length_cons, List.length_nil, List.length_take, List.length_drop, List.length_replicate, List.length_set] at *; omega))); · (first | omega | (simp only [List.length_map, List.length_append, List.length_cons, List.length_nil, List.length_take, List.length_drop, List.length_replicate, List.length_set] at *; omega)))
                     | ((with_reducible refine SubSt.mk ?_ ?_); · (repeat (first | (intro _y _hy; cases _hy; done) | refine List.forall_mem_cons.2 ⟨by (repeat (first | exact List.Mem.head _ | with_reducible apply List.mem_append_right | with_reducible apply List.mem_cons_of_mem)), ?_⟩)))
                     | (with_reducible refine NextSt.mk ?_)
                     | (with_reducible refine OnBB.tt ?_)
                     | (with_reducible refine OnBB.ff ?_)
                     | ((with_reducible apply NW.addN); (· first | with_reducible rfl | exact natL _); (· first | with_reducible rfl | exact natL _); (· omega))
                     | ((with_reducible apply Cmp.yes); · first | omega | (with_reducible assumption) | (with_reducible rfl))
                     | ((with_reducible apply LoadSt.box); · (repeat (first | exact List.Mem.head _ | with_reducible apply List.mem_append_right | with_reducible apply List.mem_cons_of_mem)))
                     | ((with_reducible refine AllocSt.mk ?_); intro _b _hb _hbO)
                     | ((with_reducible apply StoreSt.box); (· (repeat (first | exact Upd.hd | apply Upd.tl | apply Upd.app))); (· rfl); (· rfl); (· rfl)))
            rw [← hst] at hk3 hk4 ⊢
            refine RoundFix.mk ((k + 1, ⟨r0.p, sb3, wb3⟩, ⟨s0.p, sb4, wb4⟩)) ?_ ?_ _ rfl (Wk.drop (by (try dsimp only); (try simp only [List.cons_append, List.nil_append]); (repeat (first | with_reducible exact List.Sublist.refl _ | with_reducible exact List.nil_sublist _ | with_reducible apply List.Sublist.cons_cons | with_reducible apply sub_app | apply List.Sublist.cons_cons | apply sub_app | with_reducible apply List.Sublist.cons | with_reducible apply sub_skip)))) ?_
            · dsimp only; omega
            · repeat' (first | exact True.intro | refine And.intro ?_ ?_ | rfl | exact congrArg (Value.int _) (by omega) | exact congrArg (fun n => Value.slice _ n _) (by (try dsimp only); omega))
            · exact ⟨by omega, rfl, rfl, hk3, hk4⟩
          by_cases h1 : ki = 1
          · subst h1
            rw [show dopD ⟨1, xn, xs⟩ d = d.sync.1 from rfl] at hst
            repeat' (conv => whnf
                     first
                     | (((with_reducible apply LoadSt.rdg (g := dopV) (s := 3)); (· rfl); (· (repeat (first | with_reducible assumption | (with_reducible apply Buf.rd; with_reducible assumption) | (with_reducible apply Rd.appL; with_reducible assumption) | (with_reducible apply Rd.appL; with_reducible apply Buf.rd; with_reducible assumption) | with_reducible apply Rd.cons | with_reducible apply Rd.appR))); (· exact fun _ => rfl); (· decide); (· (first | omega | (simp only [List.length_map, List.length_append, List.length_cons, List.length_nil, List.length_take, List.length_drop, List.length_replicate, List.length_set] at *; omega)))); rw [← hx])
                     | (((with_reducible apply CallSt.loc (f := 39) (H := dHp _ d)); (· (repeat (first | with_reducible exact Loc.hd | with_reducible exact Loc.last | with_reducible exact Loc.one | with_reducible apply Loc.tl | with_reducible apply Loc.skip))); (· exact f39 _ d hd hkr _); rintro _ _ ⟨⟨p3, sb3, wb3⟩, hp3, rfl, hk3, rfl⟩; (obtain rfl : p3 = _ := hp3)))
                     | (((with_reducible apply CallSt.loc (f := 40) (H := eHp _ d)); (· (repeat (first | with_reducible exact Loc.hd | with_reducible exact Loc.last | with_reducible exact Loc.one | with_reducible apply Loc.tl | with_reducible apply Loc.skip))); (· exact f40 _ d hd hks _); rintro _ _ ⟨⟨p4, sb4, wb4⟩, hp4, rfl, hk4, rfl⟩; (obtain rfl : p4 = _ := hp4)))
                     | (((with_reducible apply CallSt.rd (f := 47)); (· (apply GSpec.locRet (H := dHp _ _)); (· (repeat (first | with_reducible exact Loc.hd | with_reducible exact Loc.last | with_reducible exact Loc.one | with_reducible apply Loc.tl | with_reducible apply Loc.skip))); (· exact f47 _ _ _))))
                     | (((with_reducible apply CallSt.rd (f := 48)); (· (apply GSpec.locRet (H := eHp _ _)); (· (repeat (first | with_reducible exact Loc.hd | with_reducible exact Loc.last | with_reducible exact Loc.one | with_reducible apply Loc.tl | with_reducible apply Loc.skip))); (· exact f48 _ _ _))))
                     | (((with_reducible apply CallSt.rd (f := 49)); (· (apply GSpec.locRet (H := dHp _ _)); (· (repeat (first | with_reducible exact Loc.hd | with_reducible exact Loc.last | with_reducible exact Loc.one | with_reducible apply Loc.tl | with_reducible apply Loc.skip))); (· exact f49 _ _ _))))
                     | (((with_reducible apply CallSt.rd (f := 50)); (· (apply GSpec.locRet (H := eHp _ _)); (· (repeat (first | with_reducible exact Loc.hd | with_reducible exact Loc.last | with_reducible exact Loc.one | with_reducible apply Loc.tl | with_reducible apply Loc.skip))); (· exact f50 _ _ _))))
                     | (((with_reducible apply OnBB.yes); · exact beq_self_eq_true _))
                     | (((with_reducible apply Cmp.no); · exact fun h => h rfl))
                     | ((with_reducible apply IdxSl.rdg (g := dopV) (s := 3)); (· with_reducible assumption); (· exact fun _ => rfl); (· decide); (· rfl); (· first | with_reducible rfl | exact natL _); (· (first | omega | (simp only [List.length_map, List.length_append, List.length_cons, List.length_nil, List.length_take, List.length_drop, List.length_replicate, List.length_set] at *; omega))); · (first | omega | (simp only [List.length_map, List.length_append, List.length_cons, List.length_nil, List.length_take, List.length_drop, List.length_replicate, List.length_set] at *; omega)))
                     | (with_reducible refine NextSt.mk ?_)
                     | (with_reducible refine OnBB.tt ?_)
                     | (with_reducible refine OnBB.ff ?_)
                     | ((with_reducible apply NW.addN); (· first | with_reducible rfl | exact natL _); (· first | with_reducible rfl | exact natL _); (· omega))
                     | ((with_reducible apply Cmp.yes); · first | omega | (with_reducible assumption) | (with_reducible rfl))
                     | ((with_reducible apply Cmp.no); · first | omega | (with_reducible assumption))
                     | ((with_reducible apply LoadSt.box); · (repeat (first | exact List.Mem.head _ | with_reducible apply List.mem_append_right | with_reducible apply List.mem_cons_of_mem)))
                     | ((with_reducible refine AllocSt.mk ?_); intro _b _hb _hbO)
                     | ((with_reducible apply StoreSt.box); (· (repeat (first | exact Upd.hd | apply Upd.tl | apply Upd.app))); (· rfl); (· rfl); (· rfl)))
            rw [← hst] at hk3 hk4 ⊢
            refine RoundFix.mk ((k + 1, ⟨r0.p, sb3, wb3⟩, ⟨s0.p, sb4, wb4⟩)) ?_ ?_ _ rfl (Wk.drop (by (try dsimp only); (try simp only [List.cons_append, List.nil_append]); (repeat (first | with_reducible exact List.Sublist.refl _ | with_reducible exact List.nil_sublist _ | with_reducible apply List.Sublist.cons_cons | with_reducible apply sub_app | apply List.Sublist.cons_cons | apply sub_app | with_reducible apply List.Sublist.cons | with_reducible apply sub_skip)))) ?_
            · dsimp only; omega
            · repeat' (first | exact True.intro | refine And.intro ?_ ?_ | rfl | exact congrArg (Value.int _) (by omega) | exact congrArg (fun n => Value.slice _ n _) (by (try dsimp only); omega))
            · exact ⟨by omega, rfl, rfl, hk3, hk4⟩
          by_cases h2 : ki = 2
          · subst h2
            rw [show dopD ⟨2, xn, xs⟩ d = d from rfl] at hst
            repeat' (conv => whnf
                     first
                     | (((with_reducible apply LoadSt.rdg (g := dopV) (s := 3)); (· rfl); (· (repeat (first | with_reducible assumption | (with_reducible apply Buf.rd; with_reducible assumption) | (with_reducible apply Rd.appL; with_reducible assumption) | (with_reducible apply Rd.appL; with_reducible apply Buf.rd; with_reducible assumption) | with_reducible apply Rd.cons | with_reducible apply Rd.appR))); (· exact fun _ => rfl); (· decide); (· (first | omega | (simp only [List.length_map, List.length_append, List.length_cons, List.length_nil, List.length_take, List.length_drop, List.length_replicate, List.length_set] at *; omega)))); rw [← hx])
                     | (((with_reducible apply CallSt.rd (f := 41)); (· (apply GSpec.locRet (H := dHp _ _)); (· (repeat (first | with_reducible exact Loc.hd | with_reducible exact Loc.last | with_reducible exact Loc.one | with_reducible apply Loc.tl | with_reducible apply Loc.skip))); (· exact f41 _ d xn hd.few.1 hkr _))))
                     | (((with_reducible apply CallSt.rd (f := 42)); (· (apply GSpec.locRet (H := eHp _ _)); (· (repeat (first | with_reducible exact Loc.hd | with_reducible exact Loc.last | with_reducible exact Loc.one | with_reducible apply Loc.tl | with_reducible apply Loc.skip))); (· exact f42 _ d xn hd hks _))))
                     | (((with_reducible apply CallSt.rd (f := 47)); (· (apply GSpec.locRet (H := dHp _ _)); (· (repeat (first | with_reducible exact Loc.hd | with_reducible exact Loc.last | with_reducible exact Loc.one | with_reducible apply Loc.tl | with_reducible apply Loc.skip))); (· exact f47 _ _ _))))
                     | (((with_reducible apply CallSt.rd (f := 48)); (· (apply GSpec.locRet (H := eHp _ _)); (· (repeat (first | with_reducible exact Loc.hd | with_reducible exact Loc.last | with_reducible exact Loc.one | with_reducible apply Loc.tl | with_reducible apply Loc.skip))); (· exact f48 _ _ _))))
                     | (((with_reducible apply CallSt.rd (f := 49)); (· (apply GSpec.locRet (H := dHp _ _)); (· (repeat (first | with_reducible exact Loc.hd | with_reducible exact Loc.last | with_reducible exact Loc.one | with_reducible apply Loc.tl | with_reducible apply Loc.skip))); (· exact f49 _ _ _))))
                     | (((with_reducible apply CallSt.rd (f := 50)); (· (apply GSpec.locRet (H := eHp _ _)); (· (repeat (first | with_reducible exact Loc.hd | with_reducible exact Loc.last | with_reducible exact Loc.one | with_reducible apply Loc.tl | with_reducible apply Loc.skip))); (· exact f50 _ _ _))))
                     | (((with_reducible apply OnBB.yes); · exact beq_self_eq_true _))
                     | (((with_reducible apply Cmp.no); · exact fun h => h rfl))
                     | ((with_reducible apply IdxSl.rdg (g := dopV) (s := 3)); (· with_reducible assumption); (· exact fun _ => rfl); (· decide); (· rfl); (· first | with_reducible rfl | exact natL _); (· (first | omega | (simp only [List.length_map, List.length_append, List.length_cons, List.length_nil, List.length_take, List.length_drop, List.length_replicate, List.length_set] at *; omega))); · (first | omega | (simp only [List.length_map, List.length_append, List.length_cons, List.length_nil, List.length_take, List.length_drop, List.length_replicate, List.length_set] at *; omega)))
                     | (with_reducible refine NextSt.mk ?_)
                     | (with_reducible refine OnBB.tt ?_)
                     | (with_reducible refine OnBB.ff ?_)
                     | ((with_reducible apply NW.addN); (· first | with_reducible rfl | exact natL _); (· first | with_reducible rfl | exact natL _); (· omega))
                     | ((with_reducible apply Cmp.yes); · first | omega | (with_reducible assumption) | (with_reducible rfl))
                     | ((with_reducible apply Cmp.no); · first | omega | (with_reducible assumption))
                     | ((with_reducible apply LoadSt.box); · (repeat (first | exact List.Mem.head _ | with_reducible apply List.mem_append_right | with_reducible apply List.mem_cons_of_mem)))
                     | ((with_reducible refine AllocSt.mk ?_); intro _b _hb _hbO)
                     | ((with_reducible apply StoreSt.box); (· (repeat (first | exact Upd.hd | apply Upd.tl | apply Upd.app))); (· rfl); (· rfl); (· rfl)))
            rw [← hst] at hkr hks ⊢
            refine RoundFix.mk ((k + 1, ⟨r0.p, rsb, rwb⟩, ⟨s0.p, ssb, swb⟩)) ?_ ?_ _ rfl (Wk.drop (by (try dsimp only); (try simp only [List.cons_append, List.nil_append]); (repeat (first | with_reducible exact List.Sublist.refl _ | with_reducible exact List.nil_sublist _ | with_reducible apply List.Sublist.cons_cons | with_reducible apply sub_app | apply List.Sublist.cons_cons | apply sub_app | with_reducible apply List.Sublist.cons | with_reducible apply sub_skip)))) ?_
            · dsimp only; omega
            · repeat' (first | exact True.intro | refine And.intro ?_ ?_ | rfl | exact congrArg (Value.int _) (by omega) | exact congrArg (fun n => Value.slice _ n _) (by (try dsimp only); omega))
            · exact ⟨by omega, rfl, rfl, hkr, hks⟩
          by_cases h3 : ki = 3
          · subst h3
            rw [show dopD ⟨3, xn, xs⟩ d = d.arm xn from rfl] at hst
            repeat' (conv => whnf
                     first
                     | (((with_reducible apply LoadSt.rdg (g := dopV) (s := 3)); (· rfl); (· (repeat (first | with_reducible assumption | (with_reducible apply Buf.rd; with_reducible assumption) | (with_reducible apply Rd.appL; with_reducible assumption) | (with_reducible apply Rd.appL; with_reducible apply Buf.rd; with_reducible assumption) | with_reducible apply Rd.cons | with_reducible apply Rd.appR))); (· exact fun _ => rfl); (· decide); (· (first | omega | (simp only [List.length_map, List.length_append, List.length_cons, List.length_nil, List.length_take, List.length_drop, List.length_replicate, List.length_set] at *; omega)))); rw [← hx])
                     | (((with_reducible apply CallSt.loc (f := 43) (H := dHp _ d)); (· (repeat (first | with_reducible exact Loc.hd | with_reducible exact Loc.last | with_reducible exact Loc.one | with_reducible apply Loc.tl | with_reducible apply Loc.skip))); (· exact f43 _ d xn hkr _); rintro _ _ ⟨⟨p3, sb3, wb3⟩, hp3, rfl, hk3, rfl⟩; (obtain rfl : p3 = _ := hp3)))
                     | (((with_reducible apply CallSt.loc (f := 44) (H := eHp _ d)); (· (repeat (first | with_reducible exact Loc.hd | with_reducible exact Loc.last | with_reducible exact Loc.one | with_reducible apply Loc.tl | with_reducible apply Loc.skip))); (· exact f44 _ d xn hqn hks _); rintro _ _ ⟨⟨p4, sb4, wb4⟩, hp4, rfl, hk4, rfl⟩; (obtain rfl : p4 = _ := hp4)))
                     | (((with_reducible apply CallSt.rd (f := 47)); (· (apply GSpec.locRet (H := dHp _ _)); (· (repeat (first | with_reducible exact Loc.hd | with_reducible exact Loc.last | with_reducible exact Loc.one | with_reducible apply Loc.tl | with_reducible apply Loc.skip))); (· exact f47 _ _ _))))
                     | (((with_reducible apply CallSt.rd (f := 48)); (· (apply GSpec.locRet (H := eHp _ _)); (· (repeat (first | with_reducible exact Loc.hd | with_reducible exact Loc.last | with_reducible exact Loc.one | with_reducible apply Loc.tl | with_reducible apply Loc.skip))); (· exact f48 _ _ _))))
                     | (((with_reducible apply CallSt.rd (f := 49)); (· (apply GSpec.locRet (H := dHp _ _)); (· (repeat (first | with_reducible exact Loc.hd | with_reducible exact Loc.last | with_reducible exact Loc.one | with_reducible apply Loc.tl | with_reducible apply Loc.skip))); (· exact f49 _ _ _))))
                     | (((with_reducible apply CallSt.rd (f := 50)); (· (apply GSpec.locRet (H := eHp _ _)); (· (repeat (first | with_reducible exact Loc.hd | with_reducible exact Loc.last | with_reducible exact Loc.one | with_reducible apply Loc.tl | with_reducible apply Loc.skip))); (· exact f50 _ _ _))))
                     | (((with_reducible apply OnBB.yes); · exact beq_self_eq_true _))
                     | (((with_reducible apply Cmp.no); · exact fun h => h rfl))
                     | ((with_reducible apply IdxSl.rdg (g := dopV) (s := 3)); (· with_reducible assumption); (· exact fun _ => rfl); (· decide); (· rfl); (· first | with_reducible rfl | exact natL _); (· (first | omega | (simp only [List.length_map, List.length_append, List.length_cons, List.length_nil, List.length_take, List.length_drop, List.length_replicate, List.length_set] at *; omega))); · (first | omega | (simp only [List.length_map, List.length_append, List.length_cons, List.length_nil, List.length_take, List.length_drop, List.length_replicate, List.length_set] at *; omega)))
                     | (with_reducible refine NextSt.mk ?_)
                     | (with_reducible refine OnBB.tt ?_)
                     | (with_reducible refine OnBB.ff ?_)
                     | ((with_reducible apply NW.addN); (· first | with_reducible rfl | exact natL _); (· first | with_reducible rfl | exact natL _); (· omega))
                     | ((with_reducible apply Cmp.yes); · first | omega | (with_reducible assumption) | (with_reducible rfl))
                     | ((with_reducible apply Cmp.no); · first | omega | (with_reducible assumption))
                     | ((with_reducible apply LoadSt.box); · (repeat (first | exact List.Mem.head _ | with_reducible apply List.mem_append_right | with_reducible apply List.mem_cons_of_mem)))
                     | ((with_reducible refine AllocSt.mk ?_); intro _b _hb _hbO)
                     | ((with_reducible apply StoreSt.box); (· (repeat (first | exact Upd.hd | apply Upd.tl | apply Upd.app))); (· rfl); (· rfl); (· rfl)))
            rw [← hst] at hk3 hk4 ⊢
            refine RoundFix.mk ((k + 1, ⟨r0.p, sb3, wb3⟩, ⟨s0.p, sb4, wb4⟩)) ?_ ?_ _ rfl (Wk.drop (by (try dsimp only); (try simp only [List.cons_append, List.nil_append]); (repeat (first | with_reducible exact List.Sublist.refl _ | with_reducible exact List.nil_sublist _ | with_reducible apply List.Sublist.cons_cons | with_reducible apply sub_app | apply List.Sublist.cons_cons | apply sub_app | with_reducible apply List.Sublist.cons | with_reducible apply sub_skip)))) ?_
            · dsimp only; omega
            · repeat' (first | exact True.intro | refine And.intro ?_ ?_ | rfl | exact congrArg (Value.int _) (by omega) | exact congrArg (fun n => Value.slice _ n _) (by (try dsimp only); omega))
            · exact ⟨by omega, rfl, rfl, hk3, hk4⟩
          by_cases h4 : ki = 4
          · subst h4
            rw [show dopD ⟨4, xn, xs⟩ d = d.restart xs from rfl] at hst
            repeat' (conv => whnf
                     first
                     | (((with_reducible apply LoadSt.rdg (g := dopV) (s := 3)); (· rfl); (· (repeat (first | with_reducible assumption | (with_reducible apply Buf.rd; with_reducible assumption) | (with_reducible apply Rd.appL; with_reducible assumption) | (with_reducible apply Rd.appL; with_reducible apply Buf.rd; with_reducible assumption) | with_reducible apply Rd.cons | with_reducible apply Rd.appR))); (· exact fun _ => rfl); (· decide); (· (first | omega | (simp only [List.length_map, List.length_append, List.length_cons, List.length_nil, List.length_take, List.length_drop, List.length_replicate, List.length_set] at *; omega)))); rw [← hx])
                     | (((with_reducible apply CallSt.loc (f := 45) (H := dHp _ d)); (· (repeat (first | with_reducible exact Loc.hd | with_reducible exact Loc.last | with_reducible exact Loc.one | with_reducible apply Loc.tl | with_reducible apply Loc.skip))); (· exact f45 _ d xs hd hqs hkr _); rintro _ _ ⟨⟨p3, sb3, wb3⟩, hp3, rfl, hk3, rfl⟩; (obtain rfl : p3 = _ := hp3)))
                     | (((with_reducible apply CallSt.loc (f := 46) (H := eHp _ d)); (· (repeat (first | with_reducible exact Loc.hd | with_reducible exact Loc.last | with_reducible exact Loc.one | with_reducible apply Loc.tl | with_reducible apply Loc.skip))); (· exact f46 _ d xs hd hqs hks _); rintro _ _ ⟨⟨p4, sb4, wb4⟩, hp4, rfl, hk4, rfl⟩; (obtain rfl : p4 = _ := hp4)))
                     | (((with_reducible apply CallSt.rd (f := 47)); (· (apply GSpec.locRet (H := dHp _ _)); (· (repeat (first | with_reducible exact Loc.hd | with_reducible exact Loc.last | with_reducible exact Loc.one | with_reducible apply Loc.tl | with_reducible apply Loc.skip))); (· exact f47 _ _ _))))
                     | (((with_reducible apply CallSt.rd (f := 48)); (· (apply GSpec.locRet (H := eHp _ _)); (· (repeat (first | with_reducible exact Loc.hd | with_reducible exact Loc.last | with_reducible exact Loc.one | with_reducible apply Loc.tl | with_reducible apply Loc.skip))); (· exact f48 _ _ _))))
                     | (((with_reducible apply CallSt.rd (f := 49)); (· (apply GSpec.locRet (H := dHp _ _)); (· (repeat (first | with_reducible exact Loc.hd | with_reducible exact Loc.last | with_reducible exact Loc.one | with_reducible apply Loc.tl | with_reducible apply Loc.skip))); (· exact f49 _ _ _))))
                     | (((with_reducible apply CallSt.rd (f := 50)); (· (apply GSpec.locRet (H := eHp _ _)); (· (repeat (first | with_reducible exact Loc.hd | with_reducible exact Loc.last | with_reducible exact Loc.one | with_reducible apply Loc.tl | with_reducible apply Loc.skip))); (· exact f50 _ _ _))))
                     | (((with_reducible apply OnBB.yes); · exact beq_self_eq_true _))
                     | (((with_reducible apply Cmp.no); · exact fun h => h rfl))
                     | ((with_reducible apply IdxSl.rdg (g := dopV) (s := 3)); (· with_reducible assumption); (· exact fun _ => rfl); (· decide); (· rfl); (· first | with_reducible rfl | exact natL _); (· (first | omega | (simp only [List.length_map, List.length_append, List.length_cons, List.length_nil, List.length_take, List.length_drop, List.length_replicate, List.length_set] at *; omega))); · (first | omega | (simp only [List.length_map, List.length_append, List.length_cons, List.length_nil, List.length_take, List.length_drop, List.length_replicate, List.length_set] at *; omega)))
                     | (with_reducible refine NextSt.mk ?_)
                     | (with_reducible refine OnBB.tt ?_)
                     | (with_reducible refine OnBB.ff ?_)
                     | ((with_reducible apply NW.addN); (· first | with_reducible rfl | exact natL _); (· first | with_reducible rfl | exact natL _); (· omega))
                     | ((with_reducible apply Cmp.yes); · first | omega | (with_reducible assumption) | (with_reducible rfl))
                     | ((with_reducible apply Cmp.no); · first | omega | (with_reducible assumption))
                     | ((with_reducible apply LoadSt.box); · (repeat (first | exact List.Mem.head _ | with_reducible apply List.mem_append_right | with_reducible apply List.mem_cons_of_mem)))
                     | ((with_reducible refine AllocSt.mk ?_); intro _b _hb _hbO)
                     | ((with_reducible apply StoreSt.box); (· (repeat (first | exact Upd.hd | apply Upd.tl | apply Upd.app))); (· rfl); (· rfl); (· rfl)))
            rw [← hst] at hk3 hk4 ⊢
            refine RoundFix.mk ((k + 1, ⟨r0.p, sb3, wb3⟩, ⟨s0.p, sb4, wb4⟩)) ?_ ?_ _ rfl (Wk.drop (by (try dsimp only); (try simp only [List.cons_append, List.nil_append]); (repeat (first | with_reducible exact List.Sublist.refl _ | with_reducible exact List.nil_sublist _ | with_reducible apply List.Sublist.cons_cons | with_reducible apply sub_app | apply List.Sublist.cons_cons | apply sub_app | with_reducible apply List.Sublist.cons | with_reducible apply sub_skip)))) ?_
            · dsimp only; omega
            · repeat' (first | exact True.intro | refine And.intro ?_ ?_ | rfl | exact congrArg (Value.int _) (by omega) | exact congrArg (fun n => Value.slice _ n _) (by (try dsimp only); omega))
            · exact ⟨by omega, rfl, rfl, hk3, hk4⟩
          rw [show dopD ⟨ki, xn, xs⟩ d = d from by simp only [dopD, if_neg h0, if_neg h1, if_neg h2, if_neg h3, if_neg h4]] at hst
          repeat' (conv => whnf
                   first
                   | (((with_reducible apply LoadSt.rdg (g := dopV) (s := 3)); (· rfl); (· (repeat (first | with_reducible assumption | (with_reducible apply Buf.rd; with_reducible assumption) | (with_reducible apply Rd.appL; with_reducible assumption) | (with_reducible apply Rd.appL; with_reducible apply Buf.rd; with_reducible assumption) | with_reducible apply Rd.cons | with_reducible apply Rd.appR))); (· exact fun _ => rfl); (· decide); (· (first | omega | (simp only [List.length_map, List.length_append, List.length_cons, List.length_nil, List.length_take, List.length_drop, List.length_replicate, List.length_set] at *; omega)))); rw [← hx])
                   | (((with_reducible apply CallSt.rd (f := 47)); (· (apply GSpec.locRet (H := dHp _ _)); (· (repeat (first | with_reducible exact Loc.hd | with_reducible exact Loc.last | with_reducible exact Loc.one | with_reducible apply Loc.tl | with_reducible apply Loc.skip))); (· exact f47 _ _ _))))
                   | (((with_reducible apply CallSt.rd (f := 48)); (· (apply GSpec.locRet (H := eHp _ _)); (· (repeat (first | with_reducible exact Loc.hd | with_reducible exact Loc.last | with_reducible exact Loc.one | with_reducible apply Loc.tl | with_reducible apply Loc.skip))); (· exact f48 _ _ _))))
                   | (((with_reducible apply CallSt.rd (f := 49)); (· (apply GSpec.locRet (H := dHp _ _)); (· (repeat (first | with_reducible exact Loc.hd | with_reducible exact Loc.last | with_reducible exact Loc.one | with_reducible apply Loc.tl | with_reducible apply Loc.skip))); (· exact f49 _ _ _))))
                   | (((with_reducible apply CallSt.rd (f := 50)); (· (apply GSpec.locRet (H := eHp _ _)); (· (repeat (first | with_reducible exact Loc.hd | with_reducible exact Loc.last | with_reducible exact Loc.one | with_reducible apply Loc.tl | with_reducible apply Loc.skip))); (· exact f50 _ _ _))))
                   | (((with_reducible apply OnBB.yes); · exact beq_self_eq_true _))
                   | (((with_reducible apply Cmp.no); · exact fun h => h rfl))
                   | ((with_reducible apply IdxSl.rdg (g := dopV) (s := 3)); (· with_reducible assumption); (· exact fun _ => rfl); (· decide); (· rfl); (· first | with_reducible rfl | exact natL _); (· (first | omega | (simp only [List.length_map, List.length_append, List.length_cons, List.length_nil, List.length_take, List.length_drop, List.length_replicate, List.length_set] at *; omega))); · (first | omega | (simp only [List.length_map, List.length_append, List.length_cons, List.length_nil, List.length_take, List.length_drop, List.length_replicate, List.length_set] at *; omega)))
                   | (with_reducible refine NextSt.mk ?_)
                   | (with_reducible refine OnBB.tt ?_)
                   | (with_reducible refine OnBB.ff ?_)
                   | ((with_reducible apply NW.addN); (· first | with_reducible rfl | exact natL _); (· first | with_reducible rfl | exact natL _); (· omega))
                   | ((with_reducible apply Cmp.yes); · first | omega | (with_reducible assumption) | (with_reducible rfl))
                   | ((with_reducible apply Cmp.no); · first | omega | (with_reducible assumption))
                   | ((with_reducible apply LoadSt.box); · (repeat (first | exact List.Mem.head _ | with_reducible apply List.mem_append_right | with_reducible apply List.mem_cons_of_mem)))
                   | ((with_reducible refine AllocSt.mk ?_); intro _b _hb _hbO)
                   | ((with_reducible apply StoreSt.box); (· (repeat (first | exact Upd.hd | apply Upd.tl | apply Upd.app))); (· rfl); (· rfl); (· rfl)))
          rw [← hst] at hkr hks ⊢
          refine RoundFix.mk ((k + 1, ⟨r0.p, rsb, rwb⟩, ⟨s0.p, ssb, swb⟩)) ?_ ?_ _ rfl (Wk.drop (by (try dsimp only); (try simp only [List.cons_append, List.nil_append]); (repeat (first | with_reducible exact List.Sublist.refl _ | with_reducible exact List.nil_sublist _ | with_reducible apply List.Sublist.cons_cons | with_reducible apply sub_app | apply List.Sublist.cons_cons | apply sub_app | with_reducible apply List.Sublist.cons | with_reducible apply sub_skip)))) ?_
          · dsimp only; omega
          · repeat' (first | exact True.intro | refine And.intro ?_ ?_ | rfl | exact congrArg (Value.int _) (by omega) | exact congrArg (fun n => Value.slice _ n _) (by (try dsimp only); omega))
          · exact ⟨by omega, rfl, rfl, hkr, hks⟩
        · have : k = l.length := by omega
          subst this
          obtain ⟨rp, rsb, rwb⟩ := r
          obtain ⟨sp, ssb, swb⟩ := s
          simp only at hrp hsp
          subst hrp hsp
          generalize dopI l (Dk.mk0 n) l.length = d at *
          repeat' (conv => whnf
                   first
                   | ((with_reducible refine CallSt.rd (f := 51) (X := .bool true) ?_ ?_); (· exact f51 ⟨r0.p, rsb, rwb⟩ ⟨s0.p, ssb, swb⟩ d _ (Loc.skip Loc.hd) Loc.hd hok.ok hkr hks _))
                   | (with_reducible refine NextSt.mk ?_)
                   | (with_reducible refine OnBB.ff ?_)
                   | ((with_reducible apply Cmp.no); · first | omega | (with_reducible assumption)))
          conv => whnf
          refine FinSt.ret (by (try dsimp only); (try simp only [List.cons_append, List.nil_append]); (repeat (first | with_reducible exact List.Sublist.refl _ | with_reducible exact List.nil_sublist _ | with_reducible apply List.Sublist.cons_cons | with_reducible apply sub_app | apply List.Sublist.cons_cons | apply sub_app | with_reducible apply List.Sublist.cons | with_reducible apply sub_skip))) ?_
          rfl
    · refine GSpec.enter (fn := Try.f7) Try.func7 rfl (by kernel_rfl) ?_
      repeat' (conv => whnf
               first
               | ((with_reducible refine CallSt.rd (f := 17) (X := .bool true) ?_ ?_); (· exact f17 _ _))
               | (((with_reducible apply OnBB.yes); · rfl))
               | (((with_reducible apply OnBB.no); · rfl))
               | ((apply CallSt.new (f34 n _ _); rintro _ _ hm; unfold MadeD at hm; rw [if_neg hn] at hm; obtain ⟨rfl, rfl⟩ := hm))
               | ((apply CallSt.new (f35 n _ _); rintro _ _ hm; unfold MadeE at hm; rw [if_neg hn] at hm; obtain ⟨rfl, rfl⟩ := hm))
               | (with_reducible refine NextSt.mk ?_)
               | ((with_reducible apply Cmp.no); · first | omega | (with_reducible assumption))
               | ((with_reducible refine Cmp.mk ?_ ?_) <;> intro _hc))
      all_goals (conv => whnf)
      all_goals refine FinSt.ret (by (try dsimp only); (try simp only [List.cons_append, List.nil_append]); (repeat (first | with_reducible exact List.Sublist.refl _ | with_reducible exact List.nil_sublist _ | with_reducible apply List.Sublist.cons_cons | with_reducible apply sub_app | apply List.Sublist.cons_cons | apply sub_app | with_reducible apply List.Sublist.cons | with_reducible apply sub_skip))) ?_
      all_goals rfl
  · refine GSpec.enter (fn := Try.f7) Try.func7 rfl (by kernel_rfl) ?_
    repeat' (conv => whnf
             first
             | ((with_reducible refine CallSt.rd (f := 17) (X := .bool true) ?_ ?_); (· exact f17 _ _))
             | (with_reducible refine NextSt.mk ?_)
             | (with_reducible refine OnBB.tt ?_)
             | (with_reducible refine OnBB.ff ?_)
             | ((with_reducible apply Cmp.yes); · first | omega | (with_reducible assumption) | (with_reducible rfl))
             | ((with_reducible refine Cmp.mk ?_ ?_) <;> intro _hc))
    all_goals (conv => whnf)
    all_goals refine FinSt.ret (by (try dsimp only); (try simp only [List.cons_append, List.nil_append]); (repeat (first | with_reducible exact List.Sublist.refl _ | with_reducible exact List.nil_sublist _ | with_reducible apply List.Sublist.cons_cons | with_reducible apply sub_app | apply List.Sublist.cons_cons | apply sub_app | with_reducible apply List.Sublist.cons | with_reducible apply sub_skip))) ?_
    all_goals rfl
end Go.Proofs.Ytlbmlimaobkhpaa
/- RadioDisks: what its arguments read as. -/
namespace Go.Proofs.Ytlbmlimaobkhpaa
open Go Go.Gv
set_option maxRecDepth 100000
theorem u45 : Try.prog.underlying 45 = some (.slice 53) := by kernel_rfl
theorem u53 : Try.prog.underlying 53 = some (.struct #[⟨ "Kind", 3, 0, false, "", "", 0⟩, ⟨ "N", 3, 1, false, "", "", 8⟩, ⟨ "S", 9, 2, false, "", "", 16⟩]) := by kernel_rfl
theorem c53 : Try.prog.cellsOf 53 = 3 := by kernel_rfl
theorem dOps (W : World) : DecT Try.prog W 45 (Sl.cells (α := Dop)) (SlOk Try.prog W dopV (fun x => (-9223372036854775808 ≤ x.n ∧ x.n ≤ 9223372036854775807) ∧ x.s.length ≤ 9223372036854775807)) :=
  dec_slice u45 c53 (by decide) (fun _ => rfl) ((dec_struct u53 (by decide +kernel) (by kernel_rfl) (decFs_cons (dec_i64 u3) (decFs_cons (dec_i64 u3) (decFs_cons (dec_str u9) decFs_nil)))).map
    (fun p => (⟨p.1, p.2.1, p.2.2.1⟩ : Dop)) (fun _ => rfl) fun _ h => ⟨h.2.1, maxI h.2.2.1⟩)
end Go.Proofs.Ytlbmlimaobkhpaa
