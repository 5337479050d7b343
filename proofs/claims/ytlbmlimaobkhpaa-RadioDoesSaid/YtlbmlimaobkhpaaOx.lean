/- Books: entries, sums. -/
import Derived.Test.YtlbmlimaobkhpaaOc
import Derived.Test.YtlbmlimaobkhpaaKd
set_option linter.unusedVariables false
set_option linter.unusedSimpArgs false
set_option linter.unusedSectionVars false
/- The program's books: the messages of an office, sums of lists. -/
namespace Go.Proofs.Ytlbmlimaobkhpaa
open Go Go.Gv
set_option maxRecDepth 100000
set_option maxHeartbeats 4000000
set_option linter.unusedSimpArgs false
set_option linter.unusedVariables false
theorem f118 (l : List En) (a : Option Addr) (c : Nat) (hl : l.length ≤ 1000) (h0 : a = none → l = []) (h : View) (O : Hp) (hr : Rd h O a (l.flatMap enV)) :
    GSpec Try.prog 118 [.slice a l.length c] h O (New O (RowR l)) := by
  cases a with
  | none =>
    have := h0 rfl
    subst this
    refine GSpec.enter (fn := Try.f118) Try.func118 rfl (by kernel_rfl) ?_
    repeat' (conv => whnf
             first
             | (((with_reducible apply OnBB.yes); · rfl))
             | (with_reducible refine NextSt.mk ?_))
    exact FinSt.new (H := []) (R := RowR []) (List.Sublist.refl _) ⟨Buf.nil, rfl, rfl, Buf.nil_ok 3⟩
  | some a =>
    refine GSpec.enter (fn := Try.f118) Try.func118 rfl (by kernel_rfl) ?_
    repeat' (conv => whnf
             first
             | (((with_reducible apply OnBB.no); · rfl))
             | (with_reducible refine NextSt.mk ?_)
             | ((with_reducible refine AllocSt.mk ?_); intro _b _hb _hbO))
    conv => whnf
    have hO : Gv.Loc ((_b, Obj.cells ⟨[]⟩ 70 (0, 0)) :: O) ((Buf.of _b 0).hp 70 (([] : List En).flatMap enV)) (fun H' => H' ++ O) := by rw [Buf.of_hp]; exact Gv.Loc.one
    refine AppSt.rowm (b := Buf.of _b 0) (g := enV) (xs := []) (ys := l) (s := 3) (z := .agg ⟨[.int .i64 0, .int .i64 0, .string ⟨⟨[]⟩⟩]⟩) hO (Buf.of_ok rfl) (Rd.cons hr) rfl (fun hx => by cases hx) (fun _ => rfl) (fun _ => rfl) rfl rfl rfl rfl (by show _ * 32 ≤ _; omega) (by omega) ?_
    intro D hD
    rw [List.nil_append, Nat.zero_add] at *
    repeat' (conv => whnf
             first
             | (with_reducible refine NextSt.mk ?_))
    exact FinSt.new (H := D.hp 70 (l.flatMap enV)) (R := RowR l) (List.Sublist.refl _) ⟨D, rfl, rfl, hD⟩
/-- The messages of an office, and no error. -/
def RowE (l : List En) (v : Value) (H : Hp) : Prop := ∃ B : Buf, v = .tuple ⟨[.slice B.a l.length B.cap, .int .i64 0]⟩ ∧ H = B.hp 70 (l.flatMap enV) ∧ B.ok 3 (l.flatMap enV) l.length
theorem f62 (w : Nat) (b : Br) (K : Bk) (p : Nat) (hp : p < K.logs.length) (hw : wfL K.logs) (hk : kOk b K) (h : View) : GSpec Try.prog 62 [pP b.p, iN p] h (kH w b K) (New (kH w b K) (RowE (K.logs.getD p []))) := by
  have hlg := hk.logs
  have hlen := logs_len b
  have hb8 := hw.len
  rw [← hlg] at hw hp hb8 ⊢
  have hpl : p < b.ls.length := by omega
  have hlk := logs_get hpl
  have hl64 := hw.log p hp
  rw [hlk] at hl64 ⊢
  have hrd := lgHp_rd (w := h) hk.ls hpl
  have hqb := hk.ls.get hpl
  refine GSpec.enter (fn := Try.f62) Try.func62 rfl (by kernel_rfl) ?_
  repeat' (conv => whnf
           first
           | (((with_reducible apply LoadSt.ownd (g := slV)); (· (repeat (first | exact List.Mem.head _ | with_reducible apply List.mem_cons_of_mem))); (· (exact Nat.zero_add _)); (· (omega))); unfold slV)
           | ((apply CallSt.new (f118 (b.ls.getD p default).2 (b.ls.getD p default).1.a (b.ls.getD p default).1.cap (by omega) (fun hx => List.eq_nil_of_length_eq_zero (Buf.none_len hqb hx)) _ _ (Rd.cons (Rd.cons hrd))); rintro _ _ ⟨B, rfl, rfl, hB⟩))
           | ((with_reducible apply CallSt.decY (f := 93)); (· (apply GSpec.cast (sp := f93 _ _ _ _); (· (repeat' (rfl))); all_goals (fail))); · omega)
           | (with_reducible refine NextSt.mk ?_)
           | (with_reducible refine OnBB.tt ?_)
           | (with_reducible refine OnBB.ff ?_)
           | ((with_reducible apply LoadSt.box); · (repeat (exact List.Mem.head _)))
           | ((with_reducible apply IdxSl.own1); (· rfl); (· with_reducible rfl); · (omega)))
  exact FinSt.new (H := B.hp 70 ((b.ls.getD p default).2.flatMap enV)) (R := RowE (b.ls.getD p default).2) (List.Sublist.refl _) ⟨B, rfl, rfl, hB⟩
end Go.Proofs.Ytlbmlimaobkhpaa
