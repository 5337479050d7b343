/- RadioDisks: the disks of the program and of the reference, the walk, what the arguments read as. -/
import Derived.Test.YtlbmlimaobkhpaaRd
import Derived.Test.YtlbmlimaobkhpaaEa
import Derived.Test.YtlbmlimaobkhpaaLa
import Derived.Test.YtlbmlimaobkhpaaGc
import Derived.Test.YtlbmlimaobkhpaaPa
set_option linter.unusedVariables false
set_option linter.unusedSimpArgs false
set_option linter.unusedSectionVars false
/- The reference's disks: writing, settling, reading. -/
namespace Go.Proofs.Ytlbmlimaobkhpaa
open Go Go.Gv
set_option maxRecDepth 100000
set_option maxHeartbeats 4000000
set_option linter.unusedSimpArgs false
set_option linter.unusedVariables false

def eHp (r : Dr) (d : Dk) : Hp :=
  (r.p, .cells ⟨[.slice r.sb.a d.safe.length r.sb.cap, .slice r.wb.a d.waits.length r.wb.cap, .bool !d.off, iN d.armed, iN d.falls]⟩ 145 (0, 0)) ::
    (r.sb.hp 9 (d.safe.map sV) ++ r.wb.hp 151 (d.waits.flatMap wV))
/-- What a call leaves of a disk of the reference. -/
def ER (r : Dr) (d : Dk) (X : Value) (v : Value) (O' : Hp) : Prop := ∃ r', r'.p = r.p ∧ O' = eHp r' d ∧ dOk r' d ∧ v = X

theorem f50 (r : Dr) (d : Dk) (h : View) : GSpec Try.prog 50 [dP r] h (eHp r d) (Ret (eHp r d) (iN d.safe.length)) := by
  unfold eHp
  refine GSpec.enter (fn := Try.f50) Try.func50 rfl (by kernel_rfl) ?_
  repeat' (conv => whnf
           first
           | (with_reducible refine NextSt.mk ?_)
           | ((with_reducible apply LoadSt.box); · (repeat (exact List.Mem.head _))))
  conv => whnf
  refine FinSt.ret (by (try dsimp only); (try simp only [List.cons_append, List.nil_append]); (repeat (with_reducible exact List.Sublist.refl _))) ?_
  rfl
theorem f48 (r : Dr) (d : Dk) (h : View) : GSpec Try.prog 48 [dP r] h (eHp r d) (Ret (eHp r d) (.bool !d.off)) := by
  unfold eHp
  refine GSpec.enter (fn := Try.f48) Try.func48 rfl (by kernel_rfl) ?_
  repeat' (conv => whnf
           first
           | (with_reducible refine NextSt.mk ?_)
           | ((with_reducible apply LoadSt.box); · (repeat (exact List.Mem.head _))))
  conv => whnf
  refine FinSt.ret (by (try dsimp only); (try simp only [List.cons_append, List.nil_append]); (repeat (with_reducible exact List.Sublist.refl _))) ?_
  rfl
end Go.Proofs.Ytlbmlimaobkhpaa
/- The disks' writes at any length; the reference's sync. -/
namespace Go.Proofs.Ytlbmlimaobkhpaa
open Go Go.Gv
set_option maxRecDepth 100000
set_option maxHeartbeats 4000000
set_option linter.unusedSimpArgs false
set_option linter.unusedVariables false
end Go.Proofs.Ytlbmlimaobkhpaa
/- Disks after a fall: the reference and the program. -/
namespace Go.Proofs.Ytlbmlimaobkhpaa
open Go Go.Gv
set_option maxRecDepth 100000
set_option maxHeartbeats 4000000
set_option linter.unusedSimpArgs false
set_option linter.unusedVariables false
theorem nb_get (l : Str) (i : Nat) : (nb l).getD i 0 = (l.getD i 0).toNat := by
  simp only [nb, List.getD_eq_getElem?_getD, List.getElem?_map]
  cases l[i]? <;> rfl
theorem f46 (r : Dr) (d : Dk) (keep : Str) (hd : d.ok) (hkl : keep.length ≤ 9223372036854775807) (hk : dOk r d) (h : View) : GSpec Try.prog 46 [dP r, sV keep] h (eHp r d) (fun v _ O' => ER r (d.restart keep) noV v O') := by
  have hf1 := hd.few.1
  have hf2 := hd.few.2
  have hsz := hd.size
  have hwb := hk.wb
  have hlt := Dk.lastI_lt keep (min d.waits.length keep.length)
  have hz := Dk.sf_zero (d := d) (keep := keep)
  cases ho : d.off
  all_goals
    unfold eHp
    rw [ho]
    first | rw [Bool.not_false] | rw [Bool.not_true]
    refine GSpec.enter (fn := Try.f46) Try.func46 rfl (by kernel_rfl) ?_
    repeat' (conv => whnf
             first
             | (with_reducible refine NextSt.mk ?_)
             | (with_reducible refine OnBB.tt ?_)
             | (with_reducible refine OnBB.ff ?_)
             | ((with_reducible apply NW.addN); (· with_reducible rfl); (· exact natL _); (· omega))
             | ((with_reducible apply LoadSt.box); · (repeat (exact List.Mem.head _)))
             | ((with_reducible apply StoreSt.box); (· (repeat (exact Upd.hd))); (· rfl); (· rfl); (· rfl)))
    refine LoopSt.fix [4, 5, 20, 21, 22, 23, 24, 25, 26, 27, 28, 29, 30, 31, 32, 33, 34, 35, 36, 37, 38, 39] (fun (k : Nat) => [(4, .int .i64 (Dk.lastI keep k)), (5, iN k)]) (fun _ => _) (fun k => k ≤ d.waits.length ∧ k ≤ keep.length) (fun k => keep.length - k) (0) _ (Wk.refl _ _) (rfl) ?_ ?_ ?_
    · repeat' (first | exact True.intro | refine And.intro ?_ ?_ | rfl)
    · exact ⟨Nat.zero_le _, Nat.zero_le _⟩
    · intro k d' hk2
      obtain ⟨hk2, hk3⟩ := hk2
      have hkb := nb_get keep k
      by_cases h1 : k < d.waits.length ∧ k < keep.length
      · repeat' (conv => whnf
                 first
                 | (with_reducible refine NextSt.mk ?_)
                 | (with_reducible refine OnBB.tt ?_)
                 | (with_reducible refine OnBB.ff ?_)
                 | ((with_reducible apply NW.addN); (· with_reducible rfl); (· exact natL _); (· omega))
                 | ((with_reducible apply Cmp.yes); · omega)
                 | ((with_reducible apply LoadSt.box); · (repeat (exact List.Mem.head _)))
                 | ((with_reducible apply StrIdx.m); (· with_reducible rfl); · omega)
                 | ((with_reducible refine Cmp.mk ?_ ?_) <;> intro _hc))
        · have e : Dk.lastI keep (k + 1) = k := by
            rw [Dk.lastI, if_pos]
            intro e0
            rw [e0] at hkb
            have : (nb keep).getD k 0 = 0 := hkb
            omega
          refine RoundFix.mk (k + 1) ?_ ?_ _ rfl (Wk.drop (by (try dsimp only); (try simp only [List.cons_append, List.nil_append]); (repeat (with_reducible exact List.Sublist.refl _)))) ?_
          · omega
          · repeat' (first | exact True.intro | refine And.intro ?_ ?_ | exact congrArg (Value.int _) e.symm | rfl)
          · omega
        · have e : Dk.lastI keep (k + 1) = Dk.lastI keep k := by
            rw [Dk.lastI, if_neg]
            intro e0
            exact e0 (UInt8.toNat_inj.1 (by rw [← hkb]; show _ = 0; omega))
          refine RoundFix.mk (k + 1) ?_ ?_ _ rfl (Wk.drop (by (try dsimp only); (try simp only [List.cons_append, List.nil_append]); (repeat (with_reducible exact List.Sublist.refl _)))) ?_
          · omega
          · repeat' (first | exact True.intro | refine And.intro ?_ ?_ | exact congrArg (Value.int _) e.symm | rfl)
          · omega
      · have hkm : k = min d.waits.length keep.length := by omega
        rw [hkm]
        repeat' (conv => whnf
                 first
                 | (with_reducible refine NextSt.mk ?_)
                 | (with_reducible refine OnBB.tt ?_)
                 | (with_reducible refine OnBB.ff ?_)
                 | ((with_reducible apply Cmp.no); · omega)
                 | ((with_reducible apply LoadSt.box); · (repeat (exact List.Mem.head _)))
                 | ((with_reducible refine Cmp.mk ?_ ?_) <;> intro _hc))
        all_goals
          refine LoopSt.fix [6, 7, 8, 40, 41, 42, 43, 44, 45, 46, 47, 48, 49, 50, 51, 52, 53, 54, 55, 56, 57, 58, 59, 60, 61, 62, 63, 64, 65, 66, 67, 68, 69, 70, 71, 72, 73, 74, 75, 76, 77, 78, 79, 80, 81, 82, 83, 84, 85, 86, 87, 88] (fun (i : Nat) => [(6, iN i)]) (fun i => (r.p, .cells ⟨[.slice r.sb.a d.safe.length r.sb.cap, .slice r.wb.a d.waits.length r.wb.cap, .bool (!d.off), iN d.armed, iN (if d.off then d.falls else d.falls + 1)]⟩ 145 (0, 0)) :: (r.sb.hp 9 ((Dk.sf d keep (Dk.lastI keep (min d.waits.length keep.length)) i).map sV) ++ r.wb.hp 151 (d.waits.flatMap wV))) (fun i => (i : Int) ≤ Dk.lastI keep (min d.waits.length keep.length) + 1) (fun i => (Dk.lastI keep (min d.waits.length keep.length) + 1 - i).toNat) (0) _ (Wk.refl _ _) ((by rw [hz, ho]; rfl)) ?_ ?_ ?_
          · repeat' (first | exact True.intro | refine And.intro ?_ ?_ | rfl)
          · omega
          · intro i d2 hi
            by_cases hiL : (i : Int) ≤ Dk.lastI keep (min d.waits.length keep.length)
            · have hsf := Dk.sf_len (keep := keep) hd hiL
              have hsb : r.sb.ok 1 ((Dk.sf d keep (Dk.lastI keep (min d.waits.length keep.length)) i).map sV) d.safe.length := Buf.ok_len hk.sb (by simp [hsf.2])
              have hw := hd.waits _ (getD_mem (d := default) (show i < d.waits.length by omega))
              have hcur := hsf.1 _ (getD_mem (d := []) (show (d.waits.getD i default).1 < (Dk.sf d keep (Dk.lastI keep (min d.waits.length keep.length)) i).length by rw [hsf.2]; exact hw.1))
              have hib := nb_get keep i
              have hbl : (nb keep).getD i 0 < 256 := by rw [hib]; exact UInt8.toNat_lt _
              repeat' (conv => whnf
                       first
                       | ((with_reducible refine DrawSt.walk [0, 1, 2, 3, 4, 5, 6, 7, 8, 9, 10, 11, 12, 13, 14, 15, 16, 17, 18, 19, 20, 21, 22] mixed ?_ ?_); · decide +kernel)
                       | ((with_reducible apply LoadSt.rdg (g := wV) (s := 2)); (· rfl); (· (repeat (first | (with_reducible apply Buf.rd; with_reducible assumption) | with_reducible apply Rd.cons | with_reducible apply Rd.appR))); (· exact fun _ => rfl); (· decide); · (omega))
                       | ((with_reducible apply IdxSl.bufm (s := 2)); (· with_reducible assumption); (· rfl); (· rfl); (· with_reducible rfl); · (omega))
                       | (with_reducible refine NextSt.mk ?_)
                       | (with_reducible refine OnBB.tt ?_)
                       | (with_reducible refine OnBB.ff ?_)
                       | ((with_reducible apply NW.addN); (· with_reducible rfl); (· exact natL _); (· omega))
                       | ((with_reducible apply NW.i64N); (· with_reducible rfl); (· omega))
                       | ((with_reducible apply Cmp.yes); · omega)
                       | ((with_reducible apply Cmp.no); · omega)
                       | ((with_reducible apply LoadSt.box); · (repeat (first | exact List.Mem.head _ | with_reducible apply List.mem_append_right | with_reducible apply List.mem_cons_of_mem)))
                       | ((with_reducible apply LoadSt.rdS); (· (repeat (first | (with_reducible apply Rd.appL; with_reducible apply Buf.rd; with_reducible assumption) | with_reducible apply Rd.cons))); · (omega))
                       | ((with_reducible refine AllocSt.mk ?_); intro _b _hb _hbO)
                       | ((with_reducible apply StoreSt.bufm); (· (repeat (first | with_reducible exact Loc.hd | with_reducible apply Loc.tl))); (· with_reducible assumption); (· (with_reducible rfl)); (· rfl); (· (omega)); (· rfl))
                       | ((with_reducible apply StoreSt.box); (· (repeat (exact Upd.hd))); (· rfl); (· rfl); (· rfl))
                       | ((with_reducible apply StrIdx.m); (· with_reducible rfl); · omega)
                       | ((with_reducible apply StrAdd.mk); · ((simp only [List.length_map, List.length_append, List.length_cons, List.length_nil, List.length_take, List.length_drop, List.length_replicate, List.length_set] at *; omega)))
                       | ((with_reducible apply IdxSl.buf1); (· with_reducible assumption); (· rfl); (· rfl); (· with_reducible rfl); · (omega))
                       | ((with_reducible apply StrSl.lo); (· first | with_reducible rfl | exact natL _); (· (omega)))
                       | ((with_reducible apply StrSl.hi); (· first | with_reducible rfl | exact natL _); (· (omega)))
                       | ((with_reducible refine Cmp.mk ?_ ?_) <;> intro _hc))
              all_goals first | rw [Dk.sf_step (K := 64) hd hiL (by rw [← hib, if_pos (by omega)])] | rw [Dk.sf_step (K := (nb keep).getD i 0) hd hiL (by rw [← hib, if_neg (by omega)])]
              all_goals
                refine RoundFix.mk (i + 1) ?_ ?_ _ rfl (Wk.drop (by (try dsimp only); (try simp only [List.cons_append, List.nil_append]); (repeat (first | with_reducible exact List.Sublist.refl _ | with_reducible apply List.Sublist.cons)))) ?_
                · omega
                · repeat' (first | exact True.intro | refine And.intro ?_ ?_ | rfl)
                · omega
            · rw [Dk.sf_end (by omega)]
              repeat' (conv => whnf
                       first
                       | (with_reducible refine NextSt.mk ?_)
                       | (with_reducible refine OnBB.ff ?_)
                       | ((with_reducible apply Cmp.no); · omega)
                       | ((with_reducible apply StoreSt.box); (· (repeat (exact Upd.hd))); (· rfl); (· rfl); (· rfl)))
              refine FinSt.own (R := fun v O' => ER r _ noV v O') (List.Sublist.cons_cons _ ((List.Sublist.refl _).append (List.nil_sublist _))) ⟨⟨r.p, r.sb, Buf.nil⟩, rfl, ?_, ⟨?_, Buf.nil_ok 2⟩, rfl⟩
              · simp only [eHp, Dk.restart, ho, Dk.tear_len]
                rfl
              · have e : (d.restart keep).safe.length = d.safe.length := Dk.tear_len _ _
                show r.sb.ok 1 ((d.restart keep).safe.map sV) (d.restart keep).safe.length
                rw [e]
                exact Buf.ok_len hk.sb (by rw [List.length_map, List.length_map]; exact e)
end Go.Proofs.Ytlbmlimaobkhpaa
/- The reference's disks are made; disks are compared. -/
namespace Go.Proofs.Ytlbmlimaobkhpaa
open Go Go.Gv
set_option maxRecDepth 100000
set_option maxHeartbeats 4000000
set_option linter.unusedSimpArgs false
set_option linter.unusedVariables false
end Go.Proofs.Ytlbmlimaobkhpaa
/- RadioDisks: the walk. -/
namespace Go.Proofs.Ytlbmlimaobkhpaa
open Go Go.Gv
set_option maxRecDepth 100000
set_option maxHeartbeats 4000000
set_option linter.unusedSimpArgs false
set_option linter.unusedVariables false
structure Dop where
  kind : Int
  n : Int
  s : Str
instance : Inhabited Dop := ⟨⟨0, 0, []⟩⟩
namespace Dk
structure okk (d : Dk) (k : Nat) : Prop where
  ok : d.ok
  w : d.waits.length ≤ k
  f : d.falls ≤ k
theorem okk.up {d : Dk} {k : Nat} (h : d.okk k) : d.okk (k + 1) := ⟨h.ok, by have := h.w; omega, by have := h.f; omega⟩
end Dk
end Go.Proofs.Ytlbmlimaobkhpaa
/- RadioDisks: the walk. -/
namespace Go.Proofs.Ytlbmlimaobkhpaa
open Go Go.Gv
set_option maxRecDepth 100000
set_option maxHeartbeats 4000000
set_option linter.unusedSimpArgs false
set_option linter.unusedVariables false
end Go.Proofs.Ytlbmlimaobkhpaa
/- RadioDisks: what its arguments read as. -/
namespace Go.Proofs.Ytlbmlimaobkhpaa
open Go Go.Gv
set_option maxRecDepth 100000
end Go.Proofs.Ytlbmlimaobkhpaa
