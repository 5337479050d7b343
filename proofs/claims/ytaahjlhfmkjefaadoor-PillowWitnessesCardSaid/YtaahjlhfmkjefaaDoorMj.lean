/- The laws of what refutes. -/
import Derived.Test.YtaahjlhfmkjefaaDoorMi
set_option linter.unusedVariables false
set_option linter.unusedSimpArgs false
set_option linter.unusedSectionVars false
/- The laws of refuting: PillowRefutes, PillowPairs. -/
namespace Go.Proofs.YtaahjlhfmkjefaaDoor
open Go Go.Gv
set_option maxRecDepth 100000
set_option maxHeartbeats 16000000
set_option linter.unusedSimpArgs false
set_option linter.unusedVariables false
theorem scanK_spec (p : Pl) (w : List Sp) (l : List Int) (i : Nat) : ∀ f k, (∀ k', scanK p w l i f k = some k' → k ≤ k' ∧ k' < k + f ∧ contra p w l i k') ∧ (scanK p w l i f k = none → ∀ k', k ≤ k' → k' < k + f → ¬ contra p w l i k')
  | 0, k => ⟨fun k' e => (by cases e), fun _ k' h1 h2 => by omega⟩
  | f + 1, k => by
    obtain ⟨h1, h2⟩ := scanK_spec p w l i f (k + 1)
    unfold scanK
    split
    · rename_i hc
      exact ⟨fun k' e => by cases e; exact ⟨Nat.le_refl _, by omega, hc⟩, fun e => by cases e⟩
    · rename_i hc
      refine ⟨fun k' e => ?_, fun e k' h3 h4 => ?_⟩
      · have := h1 k' e
        exact ⟨by omega, by omega, this.2.2⟩
      · by_cases e' : k' = k
        · rw [e']; exact hc
        · exact h2 e k' (by omega) (by omega)
theorem scanI_spec (p : Pl) (w : List Sp) (l : List Int) : ∀ f i, i + f = l.length → (∀ x, scanI p w l f i = some x → x.1 < x.2 ∧ x.2 < l.length ∧ contra p w l x.1 x.2) ∧ (scanI p w l f i = none → ∀ j k, i ≤ j → j < k → k < l.length → ¬ contra p w l j k)
  | 0, i, h => ⟨fun x e => (by cases e), fun _ j k h1 h2 h3 => by omega⟩
  | f + 1, i, h => by
    obtain ⟨h1, h2⟩ := scanI_spec p w l f (i + 1) (by omega)
    obtain ⟨g1, g2⟩ := scanK_spec p w l i (l.length - (i + 1)) (i + 1)
    unfold scanI
    split
    · rename_i k hk
      have := g1 k hk
      exact ⟨fun x e => by cases e; exact ⟨by show i < k; omega, by show k < l.length; omega, this.2.2⟩, fun e => by cases e⟩
    · rename_i hk
      refine ⟨h1, fun e j k h3 h4 h5 => ?_⟩
      by_cases e' : j = i
      · rw [e']; exact g2 hk k (by omega) (by omega)
      · exact h2 e j k (by omega) h4 h5
theorem refV_some {p : Pl} {w : List Sp} {l : List Int} {i k : Nat} (h : refV p w l = some (i, k)) : i < k ∧ k < l.length ∧ contra p w l i k := (scanI_spec p w l l.length 0 (by omega)).1 (i, k) h
theorem refT_form (p : Pl) (w : List Sp) (l : List Int) (hl : l.length ≤ 9223372036854775807) : ∃ i k b e, refT p w l = pairV i k b e ∧ i64 i ∧ i64 k := by
  unfold refT
  split
  · exact ⟨_, _, _, _, rfl, by decide, by decide⟩
  · split
    · rename_i i k h
      have := refV_some h
      exact ⟨_, _, _, _, rfl, by omega, by omega⟩
    · exact ⟨_, _, _, _, rfl, by decide, by decide⟩
theorem f6 (p : Pl) (w : List Sp) (l : List Int) (x y : Int) (a a2 a3 : Option Addr) (c c2 c3 : Nat) (hl : p.log.length ≤ 9223372036854775807) (hw : w.length ≤ 9223372036854775807) (hll : l.length ≤ 9223372036854775807) (h : View) (hpw : PowV h) (O : Hp) (hr : Rd h O a (p.log.flatMap shV)) (hr2 : Rd h O a2 (w.flatMap spV)) (hr3 : Rd h O a3 (l.map zI)) :
    GSpec Tryd.prog 6 [.agg ⟨plV p a c⟩, .slice a2 w.length c2, .slice a3 l.length c3, .agg ⟨[.int .i64 x, .int .i64 y]⟩] h O (Ret O (.bool true)) := by
  have e16 := fun O => f16 h hpw O
  have e32 := fun O hr hr2 hr3 => f32 p w l a a2 a3 c c2 c3 hl hw hll h O hr hr2 hr3
  have e33 := fun O hr hr2 hr3 => f33 p w l a a2 a3 c c2 c3 hl hw hll h O hr hr2 hr3
  have e34 := fun O hr hr2 hr3 => f34 p w l x y a a2 a3 c c2 c3 hl hw hll h O hr hr2 hr3
  have e35 := fun O hr hr2 hr3 => f35 p w l x y a a2 a3 c c2 c3 hl hw hll h O hr hr2 hr3
  obtain ⟨i, k, b, e, hT, hi, hk⟩ := refT_form p w l hll
  rw [hT] at e32 e33
  have hEq {K : Bool → Prop} (hK : K true) : EqSt Tryd.prog 49 (.agg ⟨[.int .i64 i, .int .i64 k]⟩) (.agg ⟨[.int .i64 i, .int .i64 k]⟩) K := eq49 hi hk hi hk (by rw [decide_eq_true ⟨rfl, rfl⟩]; exact hK)
  show GSpec Tryd.prog 6 [.agg ⟨[.int .i64 p.no, .int .i64 p.cell, .int .i64 p.noise, .int .i64 p.slab, .int .i64 p.jump, .int .i64 p.faults, .slice a p.log.length c]⟩, _, _, _] h O _
  refine GSpec.enter (fn := Tryd.f6) Tryd.func6 rfl (by kernel_rfl) ?_
  repeat' (conv => whnf
           first
           | (((with_reducible refine CallSt.rd (f := 16) (X := .bool true) ?_ ?_); (· exact e16 _)))
           | (((with_reducible refine CallSt.rd (f := 32) (X := pairV i k b e) ?_ ?_); (· exact e32 _ (by (repeat (first | with_reducible assumption | (with_reducible apply Buf.rd; with_reducible assumption) | (with_reducible apply Rd.appL; with_reducible assumption) | (with_reducible apply Rd.appL; with_reducible apply Buf.rd; with_reducible assumption) | (with_reducible apply Rd.ofH; with_reducible assumption) | (with_reducible apply Rd.ofH1; with_reducible assumption) | with_reducible apply Rd.cons | with_reducible apply Rd.appR))) (by (repeat (first | with_reducible assumption | (with_reducible apply Buf.rd; with_reducible assumption) | (with_reducible apply Rd.appL; with_reducible assumption) | (with_reducible apply Rd.appL; with_reducible apply Buf.rd; with_reducible assumption) | (with_reducible apply Rd.ofH; with_reducible assumption) | (with_reducible apply Rd.ofH1; with_reducible assumption) | with_reducible apply Rd.cons | with_reducible apply Rd.appR))) (by (repeat (first | with_reducible assumption | (with_reducible apply Buf.rd; with_reducible assumption) | (with_reducible apply Rd.appL; with_reducible assumption) | (with_reducible apply Rd.appL; with_reducible apply Buf.rd; with_reducible assumption) | (with_reducible apply Rd.ofH; with_reducible assumption) | (with_reducible apply Rd.ofH1; with_reducible assumption) | with_reducible apply Rd.cons | with_reducible apply Rd.appR))))))
           | (((with_reducible refine CallSt.rd (f := 33) (X := pairV i k b e) ?_ ?_); (· exact e33 _ (by (repeat (first | with_reducible assumption | (with_reducible apply Buf.rd; with_reducible assumption) | (with_reducible apply Rd.appL; with_reducible assumption) | (with_reducible apply Rd.appL; with_reducible apply Buf.rd; with_reducible assumption) | (with_reducible apply Rd.ofH; with_reducible assumption) | (with_reducible apply Rd.ofH1; with_reducible assumption) | with_reducible apply Rd.cons | with_reducible apply Rd.appR))) (by (repeat (first | with_reducible assumption | (with_reducible apply Buf.rd; with_reducible assumption) | (with_reducible apply Rd.appL; with_reducible assumption) | (with_reducible apply Rd.appL; with_reducible apply Buf.rd; with_reducible assumption) | (with_reducible apply Rd.ofH; with_reducible assumption) | (with_reducible apply Rd.ofH1; with_reducible assumption) | with_reducible apply Rd.cons | with_reducible apply Rd.appR))) (by (repeat (first | with_reducible assumption | (with_reducible apply Buf.rd; with_reducible assumption) | (with_reducible apply Rd.appL; with_reducible assumption) | (with_reducible apply Rd.appL; with_reducible apply Buf.rd; with_reducible assumption) | (with_reducible apply Rd.ofH; with_reducible assumption) | (with_reducible apply Rd.ofH1; with_reducible assumption) | with_reducible apply Rd.cons | with_reducible apply Rd.appR))))))
           | (((with_reducible refine CallG.rd (f := 34) (X := .int .i64 (crV p w l x y)) ?_ ?_); (· exact e34 _ (by (repeat (first | with_reducible assumption | (with_reducible apply Buf.rd; with_reducible assumption) | (with_reducible apply Rd.appL; with_reducible assumption) | (with_reducible apply Rd.appL; with_reducible apply Buf.rd; with_reducible assumption) | (with_reducible apply Rd.ofH; with_reducible assumption) | (with_reducible apply Rd.ofH1; with_reducible assumption) | with_reducible apply Rd.cons | with_reducible apply Rd.appR))) (by (repeat (first | with_reducible assumption | (with_reducible apply Buf.rd; with_reducible assumption) | (with_reducible apply Rd.appL; with_reducible assumption) | (with_reducible apply Rd.appL; with_reducible apply Buf.rd; with_reducible assumption) | (with_reducible apply Rd.ofH; with_reducible assumption) | (with_reducible apply Rd.ofH1; with_reducible assumption) | with_reducible apply Rd.cons | with_reducible apply Rd.appR))) (by (repeat (first | with_reducible assumption | (with_reducible apply Buf.rd; with_reducible assumption) | (with_reducible apply Rd.appL; with_reducible assumption) | (with_reducible apply Rd.appL; with_reducible apply Buf.rd; with_reducible assumption) | (with_reducible apply Rd.ofH; with_reducible assumption) | (with_reducible apply Rd.ofH1; with_reducible assumption) | with_reducible apply Rd.cons | with_reducible apply Rd.appR))))))
           | (((with_reducible refine CallG.rd (f := 35) (X := .int .i64 (crV p w l x y)) ?_ ?_); (· exact e35 _ (by (repeat (first | with_reducible assumption | (with_reducible apply Buf.rd; with_reducible assumption) | (with_reducible apply Rd.appL; with_reducible assumption) | (with_reducible apply Rd.appL; with_reducible apply Buf.rd; with_reducible assumption) | (with_reducible apply Rd.ofH; with_reducible assumption) | (with_reducible apply Rd.ofH1; with_reducible assumption) | with_reducible apply Rd.cons | with_reducible apply Rd.appR))) (by (repeat (first | with_reducible assumption | (with_reducible apply Buf.rd; with_reducible assumption) | (with_reducible apply Rd.appL; with_reducible assumption) | (with_reducible apply Rd.appL; with_reducible apply Buf.rd; with_reducible assumption) | (with_reducible apply Rd.ofH; with_reducible assumption) | (with_reducible apply Rd.ofH1; with_reducible assumption) | with_reducible apply Rd.cons | with_reducible apply Rd.appR))) (by (repeat (first | with_reducible assumption | (with_reducible apply Buf.rd; with_reducible assumption) | (with_reducible apply Rd.appL; with_reducible assumption) | (with_reducible apply Rd.appL; with_reducible apply Buf.rd; with_reducible assumption) | (with_reducible apply Rd.ofH; with_reducible assumption) | (with_reducible apply Rd.ofH1; with_reducible assumption) | with_reducible apply Rd.cons | with_reducible apply Rd.appR))))))
           | ((with_reducible refine hEq ?_))
           | ((refine OnBB.yes (b := b == b) (beq_self_eq_true b) ?_))
           | ((with_reducible refine DrawSt.walk [0, 1, 2, 3, 4, 5, 6, 7, 8, 9, 10, 11, 12, 13, 14, 15, 16, 17, 19, 20, 21, 22, 18, 23, 24, 25, 26] mixed ?_ ?_); · decide +kernel)
           | (with_reducible refine NextSt.mk ?_)
           | (with_reducible refine OnBB.tt ?_)
           | (with_reducible refine OnBB.ff ?_)
           | ((with_reducible apply Cmp.yes); · first | omega | (with_reducible assumption) | (with_reducible rfl))
           | ((with_reducible apply LoadSt.boxAgg); · (repeat (first | exact List.Mem.head _ | with_reducible apply List.mem_append_right | with_reducible apply List.mem_cons_of_mem)))
           | ((with_reducible refine AllocSt.mk ?_); intro _b _hb _hbO)
           | ((with_reducible apply StoreSt.box); (· (repeat (first | exact Upd.hd | apply Upd.tl | apply Upd.app))); (· rfl); (· rfl); (· rfl)))
  conv => whnf
  refine FinSt.ret (by (try dsimp only); (try simp only [List.cons_append, List.nil_append]); (repeat (first | with_reducible exact List.Sublist.refl _ | with_reducible exact List.nil_sublist _ | with_reducible apply List.Sublist.cons_cons | with_reducible apply sub_app | apply List.Sublist.cons_cons | apply sub_app | with_reducible apply List.Sublist.cons | with_reducible apply sub_skip))) ?_
  rfl
end Go.Proofs.YtaahjlhfmkjefaaDoor
