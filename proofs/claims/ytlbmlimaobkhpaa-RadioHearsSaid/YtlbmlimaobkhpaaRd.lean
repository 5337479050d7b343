/- Functions of the program: disks. -/
import Derived.Test.YtlbmlimaobkhpaaRa
import Derived.Test.YtlbmlimaobkhpaaRb
set_option linter.unusedVariables false
set_option linter.unusedSimpArgs false
set_option linter.unusedSectionVars false
/- Disks: what they do. No program in sight. -/
namespace Go.Proofs.Ytlbmlimaobkhpaa
set_option linter.unusedSimpArgs false
set_option linter.unusedVariables false

abbrev Str := List UInt8
def zs : Str := List.replicate 64 0
structure Dk where
  safe : List Str
  waits : List (Nat × Str)
  off : Bool
  armed : Nat
  falls : Nat
namespace Dk
def mk0 (n : Nat) : Dk := ⟨List.replicate n zs, [], false, 0, 0⟩
/-- 0, ErrArg (1), ErrDown. -/
def err (d : Dk) (at_ : Int) : Int := if d.off then 93 else if 0 ≤ at_ ∧ at_ < d.safe.length then 0 else 1
def look (ws : List (Nat × Str)) (i : Nat) (s : Str) : Str := ws.foldl (fun s w => if w.1 = i then w.2 else s) s
def fall (d : Dk) : Dk := { d with off := true, falls := if d.off then d.falls else d.falls + 1, armed := 0 }
def strike (d : Dk) : Dk × Bool := if d.armed = 0 then (d, false) else if d.armed = 1 then (d.fall, true) else ({ d with armed := d.armed - 1 }, false)
def settle (safe : List Str) (l : List (Nat × Str)) : List Str := l.foldl (fun r w => r.set w.1 w.2) safe
def write (d : Dk) (at_ : Int) (s : Str) : Dk × Int :=
  if d.err at_ ≠ 0 then (d, d.err at_) else if s.length ≠ 64 then (d, 1)
  else
    let r := strike { d with waits := d.waits ++ [(at_.toNat, s)] }
    (r.1, if r.2 then 93 else 0)
def sync (d : Dk) : Dk × Int :=
  if d.off then (d, 93) else
    if d.strike.2 then (d.strike.1, 93) else ({ d.strike.1 with safe := settle d.safe d.waits, waits := [] }, 0)
/-- What is stored of the writes that survive; of the last one so many bytes. -/
def tear (safe : List Str) : List ((Nat × Str) × UInt8) → List Str
  | [] => safe
  | [(w, k)] => safe.set w.1 (w.2.take (min k.toNat 64) ++ (safe.getD w.1 []).drop (min k.toNat 64))
  | (w, _) :: x :: r => tear (safe.set w.1 w.2) (x :: r)
def kept (ws : List (Nat × Str)) (keep : Str) : List ((Nat × Str) × UInt8) := (ws.zip keep).filter fun p => p.2 != 0
def restart (d : Dk) (keep : Str) : Dk := ⟨tear d.safe (kept d.waits keep), [], false, 0, if d.off then d.falls else d.falls + 1⟩
structure ok (d : Dk) : Prop where
  safe : ∀ s ∈ d.safe, s.length = 64
  waits : ∀ w ∈ d.waits, w.1 < d.safe.length ∧ w.2.length = 64
  size : d.safe.length ≤ 4096
  armed : d.armed ≤ 9223372036854775807
  few : d.waits.length < 1000000000 ∧ d.falls < 1000000000
end Dk
end Go.Proofs.Ytlbmlimaobkhpaa
/- The program's disks. -/
namespace Go.Proofs.Ytlbmlimaobkhpaa
open Go Go.Gv
set_option maxRecDepth 100000
set_option maxHeartbeats 4000000
set_option linter.unusedSimpArgs false
set_option linter.unusedVariables false

def wV (w : Nat × Str) : List Value := [iN w.1, sV w.2]
structure Dr where
  p : Nat
  sb : Buf
  wb : Buf
def dHp (r : Dr) (d : Dk) : Hp :=
  (r.p, .cells ⟨[.slice r.sb.a d.safe.length r.sb.cap, .slice r.wb.a d.waits.length r.wb.cap, .bool d.off, iN d.armed, iN d.falls]⟩ 141 (0, 0)) ::
    (r.sb.hp 9 (d.safe.map sV) ++ r.wb.hp 149 (d.waits.flatMap wV))
structure dOk (r : Dr) (d : Dk) : Prop where
  sb : r.sb.ok 1 (d.safe.map sV) d.safe.length
  wb : r.wb.ok 2 (d.waits.flatMap wV) d.waits.length
def dP (r : Dr) : Value := .pointer (some ⟨r.p, 0, none⟩)
/-- What a call leaves of a disk. -/
def DR (r : Dr) (d : Dk) (X : Value) (v : Value) (O' : Hp) : Prop := ∃ r', r'.p = r.p ∧ O' = dHp r' d ∧ dOk r' d ∧ v = X
def noV : Value := .tuple ⟨[]⟩

theorem f101 (h : View) (O : Hp) : GSpec Try.prog 101 [] h O (Ret O (sV zs)) := by
  refine GSpec.enter (fn := Try.f101) Try.func101 rfl (by kernel_rfl) ?_
  repeat' (conv => whnf
           first
           | (refine ToStr.bytes (l := List.replicate 64 0) (Rd.own0 (List.Mem.head _)) (byt.rep 64) rfl ?_)
           | (with_reducible refine NextSt.mk ?_)
           | ((with_reducible apply MakeSt.bN); (· rfl); (· rfl); (· exact natL _); (· exact natL _); (· (show 1 * _ ≤ _; omega)); (· omega); intro _b _hb _hbO))
  conv => whnf
  refine FinSt.ret (by (try dsimp only); (try simp only [List.cons_append, List.nil_append]); (repeat (first | with_reducible exact List.Sublist.refl _ | with_reducible apply List.Sublist.cons))) ?_
  show sV _ = sV _
  simp only [zs, List.map_replicate]; rfl
theorem f49 (r : Dr) (d : Dk) (h : View) : GSpec Try.prog 49 [dP r] h (dHp r d) (Ret (dHp r d) (iN d.safe.length)) := by
  unfold dHp
  refine GSpec.enter (fn := Try.f49) Try.func49 rfl (by kernel_rfl) ?_
  repeat' (conv => whnf
           first
           | (with_reducible refine NextSt.mk ?_)
           | ((with_reducible apply LoadSt.box); · (repeat (exact List.Mem.head _))))
  conv => whnf
  refine FinSt.ret (by (try dsimp only); (try simp only [List.cons_append, List.nil_append]); (repeat (with_reducible exact List.Sublist.refl _))) ?_
  rfl
theorem f47 (r : Dr) (d : Dk) (h : View) : GSpec Try.prog 47 [dP r] h (dHp r d) (Ret (dHp r d) (.bool !d.off)) := by
  cases ho : d.off
  all_goals
    unfold dHp
    rw [ho]
    refine GSpec.enter (fn := Try.f47) Try.func47 rfl (by kernel_rfl) ?_
    repeat' (conv => whnf
             first
             | (with_reducible refine NextSt.mk ?_)
             | (with_reducible refine OnBB.tt ?_)
             | (with_reducible refine OnBB.ff ?_)
             | ((with_reducible apply LoadSt.box); · (repeat (exact List.Mem.head _))))
    conv => whnf
    refine FinSt.ret (by (try dsimp only); (try simp only [List.cons_append, List.nil_append]); (repeat (with_reducible exact List.Sublist.refl _))) ?_
    rfl
theorem f108 (r : Dr) (d : Dk) (hd : d.falls < 1000000000) (hk : dOk r d) (h : View) : GSpec Try.prog 108 [dP r] h (dHp r d) (fun v _ O' => DR r d.fall noV v O') := by
  obtain ⟨safe, waits, off, armed, falls⟩ := d
  simp only at hd
  cases off
  all_goals
    simp only [dHp]
    refine GSpec.enter (fn := Try.f108) Try.func108 rfl (by kernel_rfl) ?_
    repeat' (conv => whnf
             first
             | (with_reducible refine NextSt.mk ?_)
             | (with_reducible refine OnBB.tt ?_)
             | (with_reducible refine OnBB.ff ?_)
             | ((with_reducible apply NW.addN); (· with_reducible rfl); (· exact natL _); (· omega))
             | ((with_reducible apply LoadSt.box); · (repeat (exact List.Mem.head _)))
             | ((with_reducible apply StoreSt.box); (· (repeat (exact Upd.hd))); (· rfl); (· rfl); (· rfl)))
    exact FinSt.own (R := fun v O' => DR r (Dk.fall _) noV v O') (List.Sublist.refl _) ⟨r, rfl, rfl, ⟨hk.sb, hk.wb⟩, rfl⟩
theorem f104 (r : Dr) (d : Dk) (hd : d.falls < 1000000000) (ha : d.armed ≤ 9223372036854775807) (hk : dOk r d) (h : View) : GSpec Try.prog 104 [dP r] h (dHp r d) (fun v _ O' => DR r d.strike.1 (.bool d.strike.2) v O') := by
  by_cases h0 : d.armed = 0
  · have e : d.strike = (d, false) := if_pos h0
    rw [e]
    obtain ⟨safe, waits, off, armed, falls⟩ := d
    simp only at h0
    subst h0
    simp only [dHp]
    refine GSpec.enter (fn := Try.f104) Try.func104 rfl (by kernel_rfl) ?_
    repeat' (conv => whnf
             first
             | (with_reducible refine NextSt.mk ?_)
             | (with_reducible refine OnBB.tt ?_)
             | ((with_reducible apply Cmp.yes); · omega)
             | ((with_reducible apply LoadSt.box); · (repeat (exact List.Mem.head _))))
    exact FinSt.own (R := fun v O' => DR r _ _ v O') (List.Sublist.refl _) ⟨r, rfl, rfl, hk, rfl⟩
  · by_cases h1 : d.armed = 1
    · have e : d.strike = (d.fall, true) := by rw [Dk.strike, if_neg h0, if_pos h1]
      rw [e]
      obtain ⟨safe, waits, off, armed, falls⟩ := d
      simp only at h1 hd
      subst h1
      simp only [dHp]
      refine GSpec.enter (fn := Try.f104) Try.func104 rfl (by kernel_rfl) ?_
      repeat' (conv => whnf
               first
               | ((with_reducible apply CallSt.loc (f := 108) (H := dHp r ⟨safe, waits, off, 0, falls⟩) (R := DR r (Dk.fall ⟨safe, waits, off, 0, falls⟩) noV)); (· exact Loc.last); (· exact f108 r ⟨safe, waits, off, 0, falls⟩ hd ⟨hk.sb, hk.wb⟩ h); rintro _ _ ⟨r2, hp2, rfl, hk2, rfl⟩)
               | (with_reducible refine NextSt.mk ?_)
               | (with_reducible refine OnBB.ff ?_)
               | ((with_reducible apply NW.subN); (· with_reducible rfl); (· exact natL _); (· omega))
               | ((with_reducible apply Cmp.no); · omega)
               | ((with_reducible apply LoadSt.box); · (repeat (exact List.Mem.head _)))
               | ((with_reducible apply StoreSt.box); (· (repeat (exact Upd.hd))); (· rfl); (· rfl); (· rfl)))
      exact FinSt.own (R := fun v O' => DR r _ _ v O') (List.Sublist.refl _) ⟨r2, hp2, rfl, ⟨hk2.sb, hk2.wb⟩, rfl⟩
    · have e : d.strike = ({ d with armed := d.armed - 1 }, false) := by rw [Dk.strike, if_neg h0, if_neg h1]
      rw [e]
      obtain ⟨safe, waits, off, armed, falls⟩ := d
      simp only at h0 h1 ha
      simp only [dHp]
      refine GSpec.enter (fn := Try.f104) Try.func104 rfl (by kernel_rfl) ?_
      repeat' (conv => whnf
               first
               | (with_reducible refine NextSt.mk ?_)
               | (with_reducible refine OnBB.tt ?_)
               | (with_reducible refine OnBB.ff ?_)
               | ((with_reducible apply NW.subN); (· with_reducible rfl); (· exact natL _); (· omega))
               | ((with_reducible apply Cmp.yes); · omega)
               | ((with_reducible apply Cmp.no); · omega)
               | ((with_reducible apply LoadSt.box); · (repeat (exact List.Mem.head _)))
               | ((with_reducible apply StoreSt.box); (· (repeat (exact Upd.hd))); (· rfl); (· rfl); (· rfl)))
      exact FinSt.own (R := fun v O' => DR r _ _ v O') (List.Sublist.refl _) ⟨r, rfl, rfl, ⟨hk.sb, hk.wb⟩, rfl⟩
theorem f103 (r : Dr) (d : Dk) (a : Int) (h : View) : GSpec Try.prog 103 [dP r, .int .i64 a] h (dHp r d) (Ret (dHp r d) (.int .i64 (d.err a))) := by
  cases ho : d.off
  · by_cases ha : 0 ≤ a ∧ a < d.safe.length
    · have e : d.err a = 0 := by rw [Dk.err, ho]; simp [ha]
      rw [e]
      unfold dHp
      rw [ho]
      refine GSpec.enter (fn := Try.f103) Try.func103 rfl (by kernel_rfl) ?_
      repeat' (conv => whnf
               first
               | ((with_reducible apply CallSt.decY (f := 93)); (· (apply GSpec.cast (sp := f93 _ _ _ _); (· (repeat' (with_reducible rfl))); all_goals (fail))); · omega)
               | (with_reducible refine NextSt.mk ?_)
               | (with_reducible refine OnBB.tt ?_)
               | (with_reducible refine OnBB.ff ?_)
               | ((with_reducible apply LoadSt.box); · (repeat (exact List.Mem.head _))))
      conv => whnf
      refine FinSt.ret (by (try dsimp only); (try simp only [List.cons_append, List.nil_append]); (repeat (with_reducible exact List.Sublist.refl _))) ?_
      rfl
    · have e : d.err a = 1 := by rw [Dk.err, ho]; simp [ha]
      rw [e]
      unfold dHp
      rw [ho]
      refine GSpec.enter (fn := Try.f103) Try.func103 rfl (by kernel_rfl) ?_
      repeat' (conv => whnf
               first
               | ((with_reducible apply CallSt.decN (f := 93)); (· (apply GSpec.cast (sp := f93 _ _ _ _); (· (repeat' (with_reducible rfl))); all_goals (fail))); · omega)
               | (with_reducible refine NextSt.mk ?_)
               | (with_reducible refine OnBB.tt ?_)
               | (with_reducible refine OnBB.ff ?_)
               | ((with_reducible apply LoadSt.box); · (repeat (exact List.Mem.head _))))
      conv => whnf
      refine FinSt.ret (by (try dsimp only); (try simp only [List.cons_append, List.nil_append]); (repeat (with_reducible exact List.Sublist.refl _))) ?_
      rfl
  · have e : d.err a = 93 := by rw [Dk.err, ho]; rfl
    rw [e]
    unfold dHp
    rw [ho]
    refine GSpec.enter (fn := Try.f103) Try.func103 rfl (by kernel_rfl) ?_
    repeat' (conv => whnf
             first
             | (with_reducible refine NextSt.mk ?_)
             | (with_reducible refine OnBB.tt ?_)
             | ((with_reducible apply LoadSt.box); · (repeat (exact List.Mem.head _))))
    conv => whnf
    refine FinSt.ret (by (try dsimp only); (try simp only [List.cons_append, List.nil_append]); (repeat (with_reducible exact List.Sublist.refl _))) ?_
    rfl
theorem err_ok {d : Dk} {a : Int} (h : d.err a = 0) : d.off = false ∧ 0 ≤ a ∧ a < d.safe.length := by
  unfold Dk.err at h
  split at h
  · cases h
  · rename_i ho
    split at h
    · rename_i h1; exact ⟨by simpa using ho, h1.1, h1.2⟩
    · cases h
theorem f36 (r : Dr) (d : Dk) (a : Int) (s : Str) (hd : d.ok) (hsl : s.length < 1000000) (hk : dOk r d) (h : View) : GSpec Try.prog 36 [dP r, .int .i64 a, sV s] h (dHp r d) (fun v _ O' => DR r (d.write a s).1 (.int .i64 (d.write a s).2) v O') := by
  have hf1 := hd.few.1
  have hf2 := hd.few.2
  have hfa := hd.armed
  by_cases he : d.err a = 0
  · by_cases hs : s.length = 64
    · obtain ⟨_, a1, a2⟩ := err_ok he
      obtain ⟨a, rfl⟩ := nat_of a1
      have e : d.write a s = ((Dk.strike { d with waits := d.waits ++ [(a, s)] }).1, if (Dk.strike { d with waits := d.waits ++ [(a, s)] }).2 then 93 else 0) := by
        simp only [Dk.write, he, hs, ne_eq, not_true_eq_false, if_false, Int.toNat_natCast]
      rw [e]
      have e103 := f103 r d a h
      rw [he] at e103
      cases h2 : (Dk.strike { d with waits := d.waits ++ [(a, s)] }).2
      all_goals
        have e104 := fun r' hk' => f104 r' { d with waits := d.waits ++ [(a, s)] } hf2 hfa hk' h
        have hlen : (d.waits ++ [(a, s)]).length = d.waits.length + 1 := by simp
        simp only [Bool.false_eq_true, if_false, if_true]
        unfold dHp
        refine GSpec.enter (fn := Try.f36) Try.func36 rfl (by kernel_rfl) ?_
        repeat' (conv => whnf
                 first
                 | ((with_reducible refine CallSt.rd (f := 103) (X := .int .i64 0) ?_ ?_); (· exact e103))
                 | ((with_reducible apply AppSt.litm (g := wV) (x := (a, s)) (s := 2) (z := .agg ⟨[.int .i64 0, .string ⟨⟨[]⟩⟩]⟩)); (· (repeat (first | with_reducible exact Loc.last | with_reducible apply Loc.tl | with_reducible apply Loc.skip))); (· exact hk.wb); (· (repeat (exact List.Mem.head _))); (· rfl); (· rfl); (· rfl); (· rfl); (· rfl); (· rfl); (· rfl); (· (show _ * 24 ≤ _; omega)); (· omega); intro wb' hwb'; rw [← hlen] at hwb' ⊢)
                 | ((with_reducible apply CallSt.loc (f := 104) (H := dHp ⟨r.p, r.sb, wb'⟩ { d with waits := d.waits ++ [(a, s)] }) (R := DR ⟨r.p, r.sb, wb'⟩ (Dk.strike { d with waits := d.waits ++ [(a, s)] }).1 (.bool (Dk.strike { d with waits := d.waits ++ [(a, s)] }).2))); (· exact Loc.tl Loc.last); (· exact e104 ⟨r.p, r.sb, wb'⟩ ⟨hk.sb, hwb'⟩); rintro _ _ ⟨r2, hp2, rfl, hk2, rfl⟩; rw [h2])
                 | (with_reducible refine NextSt.mk ?_)
                 | (with_reducible refine OnBB.tt ?_)
                 | (with_reducible refine OnBB.ff ?_)
                 | ((with_reducible apply Cmp.no); · omega)
                 | ((with_reducible apply LoadSt.box); · (repeat (exact List.Mem.head _)))
                 | ((with_reducible refine AllocSt.mk ?_); intro _b _hb _hbO)
                 | ((with_reducible apply StoreSt.box); (· (repeat (first | exact Upd.hd | apply Upd.tl))); (· rfl); (· rfl); (· rfl)))
        exact FinSt.own (R := fun v O' => DR r _ _ v O') (by (try dsimp only); (try simp only [List.cons_append, List.nil_append]); (repeat (first | with_reducible exact List.Sublist.refl _ | with_reducible apply List.Sublist.cons))) ⟨r2, hp2, rfl, hk2, rfl⟩
    · have e : d.write a s = (d, 1) := by simp only [Dk.write, he, hs, ne_eq, not_true_eq_false, not_false_eq_true, if_false, if_true]
      rw [e]
      have e103 := f103 r d a h
      rw [he] at e103
      unfold dHp
      refine GSpec.enter (fn := Try.f36) Try.func36 rfl (by kernel_rfl) ?_
      repeat' (conv => whnf
               first
               | ((with_reducible refine CallSt.rd (f := 103) (X := .int .i64 0) ?_ ?_); (· exact e103))
               | (with_reducible refine NextSt.mk ?_)
               | (with_reducible refine OnBB.tt ?_)
               | (with_reducible refine OnBB.ff ?_)
               | ((with_reducible apply Cmp.yes); · omega)
               | ((with_reducible apply Cmp.no); · omega))
      exact FinSt.own (R := fun v O' => DR r _ _ v O') (List.Sublist.refl _) ⟨r, rfl, rfl, hk, rfl⟩
  · have e : d.write a s = (d, d.err a) := by simp only [Dk.write, ne_eq, he, not_false_eq_true, if_true]
    rw [e]
    have e103 := f103 r d a h
    unfold dHp
    refine GSpec.enter (fn := Try.f36) Try.func36 rfl (by kernel_rfl) ?_
    repeat' (conv => whnf
             first
             | ((with_reducible refine CallSt.rd (f := 103) (X := .int .i64 (d.err a)) ?_ ?_); (· exact e103))
             | (with_reducible refine NextSt.mk ?_)
             | (with_reducible refine OnBB.tt ?_)
             | ((with_reducible apply Cmp.yes); · omega))
    exact FinSt.own (R := fun v O' => DR r _ _ v O') (List.Sublist.refl _) ⟨r, rfl, rfl, hk, rfl⟩
end Go.Proofs.Ytlbmlimaobkhpaa
/- The program's disks: settling, reading, making. -/
namespace Go.Proofs.Ytlbmlimaobkhpaa
open Go Go.Gv
set_option maxRecDepth 100000
set_option maxHeartbeats 4000000
set_option linter.unusedSimpArgs false
set_option linter.unusedVariables false

def dHpG (r : Dr) (d : Dk) (G : Hp) : Hp :=
  (r.p, .cells ⟨[.slice r.sb.a d.safe.length r.sb.cap, .slice r.wb.a d.waits.length r.wb.cap, .bool d.off, iN d.armed, iN d.falls]⟩ 141 (0, 0)) ::
    (r.sb.hp 9 (d.safe.map sV) ++ (r.wb.hp 149 (d.waits.flatMap wV) ++ G))
theorem dHpG_nil (r : Dr) (d : Dk) : dHpG r d [] = dHp r d := by simp [dHpG, dHp]
namespace Dk
theorem settle_len : ∀ (l : List (Nat × Str)) (s : List Str), (settle s l).length = s.length
  | [], _ => rfl
  | w :: l, s => by
    show (settle (s.set w.1 w.2) l).length = _
    rw [settle_len l, List.length_set]
theorem settle_app (s : List Str) (l m : List (Nat × Str)) : settle s (l ++ m) = settle (settle s l) m := List.foldl_append
theorem settle_take {s : List Str} {l : List (Nat × Str)} {k : Nat} (h : k < l.length) : settle s (l.take (k + 1)) = (settle s (l.take k)).set (l.getD k default).1 (l.getD k default).2 := by
  rw [Go.Proofs.Ytlbmlimaobkhpaa.take_succ (d := default) h, settle_app]; rfl
end Dk

theorem f106 (r : Dr) (d : Dk) (G : Hp) (l : List (Nat × Str)) (a : Option Addr) (cap : Nat) (h : View) (hl : ∀ w ∈ l, w.1 < d.safe.length) (hll : l.length < 1000000000) (hk : dOk r d) (hr : Rd h (r.wb.hp 149 (d.waits.flatMap wV) ++ G) a (l.flatMap wV)) :
    GSpec Try.prog 106 [dP r, .slice a l.length cap] h (dHpG r d G) (fun v _ O' => ∃ r', r'.p = r.p ∧ O' = dHpG r' { d with safe := Dk.settle d.safe l, waits := [] } G ∧ dOk r' { d with safe := Dk.settle d.safe l, waits := [] } ∧ v = noV) := by
  have hsl := fun k => Dk.settle_len (l.take k) d.safe
  unfold dHpG
  refine GSpec.enter (fn := Try.f106) Try.func106 rfl (by kernel_rfl) ?_
  repeat' (conv => whnf
           first
           | (with_reducible refine NextSt.mk ?_))
  refine LoopSt.fix [5, 8, 9, 10, 11, 12, 13, 14, 15, 16, 17, 18, 19, 20, 21] (fun (k : Nat) => [(8, iN k)]) (fun k => (r.p, .cells ⟨[.slice r.sb.a d.safe.length r.sb.cap, .slice r.wb.a d.waits.length r.wb.cap, .bool d.off, iN d.armed, iN d.falls]⟩ 141 (0, 0)) :: (r.sb.hp 9 ((Dk.settle d.safe (l.take k)).map sV) ++ (r.wb.hp 149 (d.waits.flatMap wV) ++ G))) (fun k => k ≤ l.length) (fun k => l.length - k) (0) _ (Wk.refl _ _) (rfl) ?_ ?_ ?_
  · repeat' (first | exact True.intro | refine And.intro ?_ ?_ | rfl)
  · exact Nat.zero_le _
  · intro k d' hk2
    have h1 := hsl k
    have hsb : r.sb.ok 1 ((Dk.settle d.safe (l.take k)).map sV) d.safe.length := Buf.ok_len hk.sb (by simp [h1])
    by_cases hkl : k < l.length
    · have hm := hl _ (getD_mem (d := default) hkl)
      repeat' (conv => whnf
               first
               | ((with_reducible refine DrawSt.walk [0, 1, 2, 3, 4, 5, 6, 7, 8, 9] mixed ?_ ?_); · decide +kernel)
               | ((with_reducible apply LoadSt.rdg (g := wV) (s := 2)); (· rfl); (· (repeat (first | with_reducible assumption | with_reducible apply Rd.cons | with_reducible apply Rd.appR))); (· exact fun _ => rfl); (· decide); · (omega))
               | ((with_reducible apply IdxSl.rdg (g := wV) (s := 2)); (· with_reducible assumption); (· exact fun _ => rfl); (· decide); (· rfl); (· with_reducible rfl); (· (omega)); · (omega))
               | (with_reducible refine NextSt.mk ?_)
               | (with_reducible refine OnBB.tt ?_)
               | ((with_reducible apply NW.addN); (· with_reducible rfl); (· exact natL _); (· omega))
               | ((with_reducible apply Cmp.yes); · omega)
               | ((with_reducible apply LoadSt.box); · (repeat (first | exact List.Mem.head _ | with_reducible apply List.mem_cons_of_mem)))
               | ((with_reducible refine AllocSt.mk ?_); intro _b _hb _hbO)
               | ((with_reducible apply StoreSt.bufm); (· (repeat (first | with_reducible exact Loc.hd | with_reducible apply Loc.tl))); (· with_reducible assumption); (· (with_reducible rfl)); (· rfl); (· (omega)); (· rfl))
               | ((with_reducible apply StoreSt.box); (· (repeat (exact Upd.hd))); (· rfl); (· rfl); (· rfl))
               | ((with_reducible apply IdxSl.buf1); (· with_reducible assumption); (· rfl); (· rfl); (· with_reducible rfl); · (omega)))
      rw [← Dk.settle_take hkl]
      refine RoundFix.mk (k + 1) ?_ ?_ _ rfl (Wk.drop (by (try dsimp only); (try simp only [List.cons_append, List.nil_append]); (repeat (first | with_reducible exact List.Sublist.refl _ | with_reducible apply List.Sublist.cons)))) ?_
      · omega
      · repeat' (first | exact True.intro | refine And.intro ?_ ?_ | rfl)
      · omega
    · have : k = l.length := by omega
      subst this
      rw [List.take_length] at hsb h1 ⊢
      repeat' (conv => whnf
               first
               | (refine ClearSt.buf (e := 149) (l := d.waits.flatMap wV) (by (repeat (first | with_reducible exact Loc.hd | with_reducible exact Loc.last | with_reducible apply Loc.tl | with_reducible apply Loc.skip))) hk.wb [.int .i64 0, .string ⟨⟨[]⟩⟩] rfl rfl rfl ?_)
               | (with_reducible refine NextSt.mk ?_)
               | (with_reducible refine OnBB.ff ?_)
               | ((with_reducible apply Cmp.no); · omega)
               | ((with_reducible apply LoadSt.box); · (repeat (exact List.Mem.head _)))
               | ((with_reducible apply StoreSt.box); (· (repeat (exact Upd.hd))); (· rfl); (· rfl); (· rfl))
               | ((with_reducible apply SlSl.hi); (· exact natL _); (· (omega))))
      refine FinSt.own (R := fun v O' => ∃ r', r'.p = r.p ∧ O' = dHpG r' { d with safe := Dk.settle d.safe l, waits := [] } G ∧ dOk r' { d with safe := Dk.settle d.safe l, waits := [] } ∧ v = noV) (List.Sublist.refl _) ⟨⟨r.p, r.sb, r.wb.cut d.waits.length [.int .i64 0, .string ⟨⟨[]⟩⟩]⟩, rfl, ?_, ⟨?_, Buf.cut_ok hk.wb rfl⟩, rfl⟩
      · simp only [dHpG, h1]; rfl
      · show r.sb.ok 1 _ _
        rw [h1]; exact hsb
theorem f39 (r : Dr) (d : Dk) (hd : d.ok) (hk : dOk r d) (h : View) : GSpec Try.prog 39 [dP r] h (dHp r d) (fun v _ O' => DR r d.sync.1 (.int .i64 d.sync.2) v O') := by
  have hf1 := hd.few.1
  have hf2 := hd.few.2
  have hfa := hd.armed
  cases ho : d.off
  · have e104 := f104 r d hf2 hfa hk h
    cases h2 : d.strike.2
    · have hsw : d.strike.1.safe = d.safe ∧ d.strike.1.waits = d.waits := by
        unfold Dk.strike; split
        · exact ⟨rfl, rfl⟩
        · split <;> exact ⟨rfl, rfl⟩
      have e : d.sync = ({ d.strike.1 with safe := Dk.settle d.strike.1.safe d.strike.1.waits, waits := [] }, 0) := by simp only [Dk.sync, ho, h2, Bool.false_eq_true, if_false, hsw]
      have hl2 : ∀ w ∈ d.strike.1.waits, w.1 < d.strike.1.safe.length := by rw [hsw.1, hsw.2]; exact fun w hw => (hd.waits w hw).1
      have hl3 : d.strike.1.waits.length < 1000000000 := by rw [hsw.2]; exact hf1
      rw [e]
      unfold dHp
      rw [ho]
      refine GSpec.enter (fn := Try.f39) Try.func39 rfl (by kernel_rfl) ?_
      repeat' (conv => whnf
               first
               | ((with_reducible apply CallSt.loc (f := 104) (H := dHp r d) (R := DR r d.strike.1 (.bool d.strike.2))); (· (unfold dHp; rw [ho]; exact Loc.last)); (· exact e104); rintro _ _ ⟨⟨p2, sb2, wb2⟩, hp2, rfl, hk2, rfl⟩; rw [h2]; (obtain rfl : p2 = r.p := hp2); rw [← dHpG_nil]; unfold dHpG)
               | ((with_reducible apply CallSt.loc (f := 106) (H := dHpG ⟨r.p, sb2, wb2⟩ d.strike.1 []) (R := fun v O' => ∃ r', r'.p = r.p ∧ O' = dHpG r' { d.strike.1 with safe := Dk.settle d.strike.1.safe d.strike.1.waits, waits := [] } [] ∧ dOk r' { d.strike.1 with safe := Dk.settle d.strike.1.safe d.strike.1.waits, waits := [] } ∧ v = noV)); (· exact Loc.last); (· exact f106 ⟨r.p, sb2, wb2⟩ d.strike.1 [] d.strike.1.waits wb2.a wb2.cap h hl2 hl3 hk2 (Rd.appL (Buf.rd hk2.wb))); rintro _ _ ⟨r3, hp3, rfl, hk3, rfl⟩)
               | (with_reducible refine NextSt.mk ?_)
               | (with_reducible refine OnBB.ff ?_)
               | ((with_reducible apply LoadSt.box); · (repeat (exact List.Mem.head _))))
      exact FinSt.own (R := fun v O' => DR r _ _ v O') (List.Sublist.refl _) ⟨r3, hp3, dHpG_nil _ _, hk3, rfl⟩
    · have e : d.sync = (d.strike.1, 93) := by simp only [Dk.sync, ho, h2, Bool.false_eq_true, if_false, if_true]
      rw [e]
      unfold dHp
      rw [ho]
      refine GSpec.enter (fn := Try.f39) Try.func39 rfl (by kernel_rfl) ?_
      repeat' (conv => whnf
               first
               | ((with_reducible apply CallSt.loc (f := 104) (H := dHp r d) (R := DR r d.strike.1 (.bool d.strike.2))); (· (unfold dHp; rw [ho]; exact Loc.last)); (· exact e104); rintro _ _ ⟨r2, hp2, rfl, hk2, rfl⟩; rw [h2])
               | (with_reducible refine NextSt.mk ?_)
               | (with_reducible refine OnBB.tt ?_)
               | (with_reducible refine OnBB.ff ?_)
               | ((with_reducible apply LoadSt.box); · (repeat (exact List.Mem.head _))))
      exact FinSt.own (R := fun v O' => DR r _ _ v O') (List.Sublist.refl _) ⟨r2, hp2, rfl, hk2, rfl⟩
  · have e : d.sync = (d, 93) := by simp only [Dk.sync, ho, if_true]
    rw [e]
    unfold dHp
    rw [ho]
    refine GSpec.enter (fn := Try.f39) Try.func39 rfl (by kernel_rfl) ?_
    repeat' (conv => whnf
             first
             | (with_reducible refine NextSt.mk ?_)
             | (with_reducible refine OnBB.tt ?_)
             | ((with_reducible apply LoadSt.box); · (repeat (exact List.Mem.head _))))
    refine FinSt.own (R := fun v O' => DR r _ _ v O') (List.Sublist.refl _) ⟨r, rfl, ?_, hk, rfl⟩
    unfold dHp
    rw [ho]
end Go.Proofs.Ytlbmlimaobkhpaa
/- The program's disks: reading, making. -/
namespace Go.Proofs.Ytlbmlimaobkhpaa
open Go Go.Gv
set_option maxRecDepth 100000
set_option maxHeartbeats 4000000
set_option linter.unusedSimpArgs false
set_option linter.unusedVariables false

/-! ### making -/
def zf (n k : Nat) : List Str := List.replicate k zs ++ List.replicate (n - k) []
theorem zf_len {n k : Nat} (h : k ≤ n) : (zf n k).length = n := by simp [zf]; omega
theorem zf_set {n k : Nat} (h : k < n) : (zf n k).set k zs = zf n (k + 1) := by
  unfold zf
  rw [List.set_append_right _ _ (by simp)]
  simp only [List.length_replicate, Nat.sub_self]
  obtain ⟨m, hm⟩ : ∃ m, n - k = m + 1 := ⟨n - k - 1, by omega⟩
  rw [hm, List.replicate_succ, List.set_cons_zero, show n - (k + 1) = m by omega, List.replicate_succ', List.append_assoc]
  rfl
theorem zf_all (n : Nat) : zf n n = List.replicate n zs := by simp [zf]
def MadeD (n : Int) (v : Value) (H : Hp) : Prop :=
  if 1 ≤ n ∧ n ≤ 4096 then ∃ r, v = .tuple ⟨[dP r, .int .i64 0]⟩ ∧ H = dHp r (Dk.mk0 n.toNat) ∧ dOk r (Dk.mk0 n.toNat)
  else v = .tuple ⟨[.pointer none, .int .i64 1]⟩ ∧ H = []
theorem f34 (n : Int) (h : View) (O : Hp) : GSpec Try.prog 34 [.int .i64 n] h O (New O (MadeD n)) := by
  by_cases hn : 1 ≤ n ∧ n ≤ 4096
  · obtain ⟨n, rfl⟩ := nat_of (show 0 ≤ n by omega)
    refine GSpec.enter (fn := Try.f34) Try.func34 rfl (by kernel_rfl) ?_
    repeat' (conv => whnf
             first
             | (((with_reducible refine AllocSt.mk ?_); intro pb _hpb _hpbO))
             | (with_reducible refine NextSt.mk ?_)
             | (with_reducible refine OnBB.ff ?_)
             | ((with_reducible apply Cmp.no); · omega)
             | ((with_reducible apply LoadSt.box); · (repeat (exact List.Mem.head _)))
             | ((with_reducible apply MakeSt.sV); (· rfl); (· rfl); (· with_reducible rfl); (· with_reducible rfl); (· (show 16 * _ ≤ _; omega)); (· omega); intro _b _hb _hbO))
    refine LoopSt.fix [5, 21, 22, 23, 24, 25, 26, 27, 28, 29, 30, 31] (fun (k : Nat) => [(21, iN k)]) (fun k => (pb, .cells ⟨[.slice (some ⟨_b, 0, none⟩) n n, .slice none 0 0, .bool false, iN 0, iN 0]⟩ 141 (0, 0)) :: (_b, .cells ⟨(zf n k).map sV⟩ 9 (0, 0)) :: O) (fun k => k ≤ n) (fun k => n - k) (0) _ (Wk.refl _ _) ((by simp only [zf, List.replicate_zero, List.nil_append, Nat.sub_zero]; rfl)) ?_ ?_ ?_
    · repeat' (first | exact True.intro | refine And.intro ?_ ?_ | rfl)
    · exact Nat.zero_le _
    · intro k d hk
      have h1 := zf_len hk
      by_cases hkn : k < n
      · repeat' (conv => whnf
                 first
                 | ((with_reducible refine DrawSt.walk [0, 1, 2, 3, 4, 5, 6, 7] mixed ?_ ?_); · decide +kernel)
                 | ((with_reducible apply CallG.rd (f := 101)); · (apply GSpec.cast (sp := f101 _ _); (· (repeat' (with_reducible rfl))); all_goals (fail)))
                 | (with_reducible refine NextSt.mk ?_)
                 | (with_reducible refine OnBB.tt ?_)
                 | ((with_reducible apply NW.addN); (· with_reducible rfl); (· exact natL _); (· omega))
                 | ((with_reducible apply Cmp.yes); · omega)
                 | ((with_reducible apply LoadSt.box); · (repeat (exact List.Mem.head _)))
                 | ((with_reducible apply StoreSt.mapd); (· (repeat (first | exact Upd.hd | apply Upd.tl))); (· (exact Nat.zero_add _)); (· rfl); (· rfl); (· (omega)); · (exact Or.inl (Nat.le_refl _)))
                 | ((with_reducible apply IdxSl.own1); (· rfl); (· with_reducible rfl); · (omega)))
        rw [zf_set hkn]
        refine RoundFix.mk (k + 1) ?_ ?_ _ rfl (Wk.drop (by (try dsimp only); (try simp only [List.cons_append, List.nil_append]); (repeat (with_reducible exact List.Sublist.refl _)))) ?_
        · omega
        · repeat' (first | exact True.intro | refine And.intro ?_ ?_ | rfl)
        · omega
      · have : k = n := by omega
        subst this
        rw [zf_all]
        repeat' (conv => whnf
                 first
                 | (with_reducible refine NextSt.mk ?_)
                 | (with_reducible refine OnBB.ff ?_)
                 | ((with_reducible apply Cmp.no); · omega))
        refine FinSt.new (H := [(pb, .cells ⟨[.slice (some ⟨_b, 0, none⟩) k k, .slice none 0 0, .bool false, iN 0, iN 0]⟩ 141 (0, 0)), (_b, .cells ⟨(List.replicate k zs).map sV⟩ 9 (0, 0))]) (R := MadeD k) (List.Sublist.refl _) ?_
        unfold MadeD
        rw [if_pos hn]
        have hm : Dk.mk0 (k : Int).toNat = Dk.mk0 k := rfl
        rw [hm]
        refine ⟨⟨pb, Buf.of _b k, Buf.nil⟩, rfl, ?_, ⟨?_, Buf.nil_ok 2⟩⟩
        · simp only [dHp, Dk.mk0, Buf.of_hp, List.length_replicate, List.length_nil]
          rfl
        · show (Buf.of _b k).ok 1 ((List.replicate k zs).map sV) (List.replicate k zs).length
          rw [List.length_replicate]
          exact Buf.of_ok (by simp)
  · refine GSpec.enter (fn := Try.f34) Try.func34 rfl (by kernel_rfl) ?_
    repeat' (conv => whnf
             first
             | (with_reducible refine NextSt.mk ?_)
             | (with_reducible refine OnBB.tt ?_)
             | (with_reducible refine OnBB.ff ?_)
             | ((with_reducible apply Cmp.yes); · omega)
             | ((with_reducible refine Cmp.mk ?_ ?_) <;> intro _hc))
    all_goals
      conv => whnf
      refine FinSt.new (H := []) (R := MadeD n) (by (try dsimp only); (try simp only [List.cons_append, List.nil_append]); (repeat (with_reducible exact List.Sublist.refl _))) ?_
      unfold MadeD
      rw [if_neg hn]
      exact ⟨rfl, rfl⟩
end Go.Proofs.Ytlbmlimaobkhpaa
