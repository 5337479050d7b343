/- Functions of the program: what refutes. -/
import Derived.Test.YtaahjlhfmkjefaaGreatDoorMc
set_option linter.unusedVariables false
set_option linter.unusedSimpArgs false
set_option linter.unusedSectionVars false
/- Do two entries tell against each other: the check. -/
namespace Go.Proofs.YtaahjlhfmkjefaaGreatDoor
open Go Go.Gv
set_option maxRecDepth 100000
set_option maxHeartbeats 8000000
set_option linter.unusedSimpArgs false
set_option linter.unusedVariables false
end Go.Proofs.YtaahjlhfmkjefaaGreatDoor
/- Can the state change behind an entry. -/
namespace Go.Proofs.YtaahjlhfmkjefaaGreatDoor
open Go Go.Gv
set_option maxRecDepth 100000
set_option maxHeartbeats 8000000
set_option linter.unusedSimpArgs false
set_option linter.unusedVariables false
end Go.Proofs.YtaahjlhfmkjefaaGreatDoor
/- Are weights a witness of a case: the reference. -/
namespace Go.Proofs.YtaahjlhfmkjefaaGreatDoor
open Go Go.Gv
set_option maxRecDepth 100000
set_option maxHeartbeats 8000000
set_option linter.unusedSimpArgs false
set_option linter.unusedVariables false
instance (v : Int) (x : Sp) : Decidable (inS v x) := by unfold inS; infer_instance
end Go.Proofs.YtaahjlhfmkjefaaGreatDoor
/- Are weights a witness of a case: the program. -/
namespace Go.Proofs.YtaahjlhfmkjefaaGreatDoor
open Go Go.Gv
set_option maxRecDepth 100000
set_option maxHeartbeats 8000000
set_option linter.unusedSimpArgs false
set_option linter.unusedVariables false
end Go.Proofs.YtaahjlhfmkjefaaGreatDoor
/- The reference's check of an entry. -/
namespace Go.Proofs.YtaahjlhfmkjefaaGreatDoor
open Go Go.Gv
set_option maxRecDepth 100000
set_option maxHeartbeats 8000000
set_option linter.unusedSimpArgs false
set_option linter.unusedVariables false
end Go.Proofs.YtaahjlhfmkjefaaGreatDoor
/- Are two pillows the same: the reference. -/
namespace Go.Proofs.YtaahjlhfmkjefaaGreatDoor
open Go Go.Gv
set_option maxRecDepth 100000
set_option maxHeartbeats 8000000
set_option linter.unusedSimpArgs false
set_option linter.unusedVariables false
theorem wf_int {n : Int} (h : i64 n) : (Lit.int .i64 n).wf = true := by
  obtain ⟨h1, h2⟩ := h
  simp [Lit.wf, IntKind.min, IntKind.max, IntKind.signed, IntKind.bits]; omega
/-- An entry that memory holds. -/
def shW (x : Sh) : Prop := i64 x.day ∧ i64 x.wt
theorem kl57 {e : Sh} (h : shW e) : Tryz.prog.keyLits 2 66 (shV e) = some [.int .i64 e.day, .int .i64 e.wt] := by
  have hu : Tryz.prog.underlying 66 = some (.struct #[⟨"Day", 3, 0, false, "", "", 0⟩, ⟨"Weight", 3, 1, false, "", "", 8⟩]) := by kernel_rfl
  have hu3 : Tryz.prog.underlying 3 = some (.int .i64) := by kernel_rfl
  have hc : Tryz.prog.cellsOf 66 = 2 := by kernel_rfl
  have hc3 : Tryz.prog.cellsOf 3 = 1 := by kernel_rfl
  simp [Program.keyLits, hu, hu3, hc, hc3, shV, wf_int h.1, wf_int h.2]
theorem eq57 {e f : Sh} (he : shW e) (hf : shW f) {K : Bool → Prop} (hK : K (decide (e = f))) : EqSt Tryz.prog 66 (.agg ⟨shV e⟩) (.agg ⟨shV f⟩) K := by
  have hu : Tryz.prog.underlying 66 = some (.struct #[⟨"Day", 3, 0, false, "", "", 0⟩, ⟨"Weight", 3, 1, false, "", "", 8⟩]) := by kernel_rfl
  have hc : Tryz.prog.cellsOf 66 = 2 := by kernel_rfl
  refine EqSt.key 2 2 _ _ (by kernel_rfl) (by decide) (by kernel_rfl) ?_ ?_ (kl57 he) (kl57 hf) (e = f) ?_ hK
  · simp [Value.formed, hu, hc, shV]
  · simp [Value.formed, hu, hc, shV]
  · obtain ⟨a, b⟩ := e
    obtain ⟨a', b'⟩ := f
    simp
theorem f48 (p q : Pl) (a a2 : Option Addr) (c c2 : Nat) (hl : p.log.length ≤ 9223372036854775807) (hl2 : q.log.length ≤ 9223372036854775807) (hi1 : ∀ i < p.log.length, shW (p.log.getD i default)) (hi2 : ∀ i < q.log.length, shW (q.log.getD i default)) (h : View) (O : Hp) (hr : Rd h O a (p.log.flatMap shV)) (hr2 : Rd h O a2 (q.log.flatMap shV)) :
    GSpec Tryz.prog 9 [.agg ⟨plV p a c⟩, .agg ⟨plV q a2 c2⟩] h O (Ret O (.bool (decide (p = q)))) := by
  obtain ⟨p1, p2, p3, p4, p5, p6, pl⟩ := p
  obtain ⟨q1, q2, q3, q4, q5, q6, ql⟩ := q
  simp only at hl hl2 hr hr2 hi1 hi2
  show GSpec Tryz.prog 9 [.agg ⟨[.int .i64 p1, .int .i64 p2, .int .i64 p3, .int .i64 p4, .int .i64 p5, .int .i64 p6, .slice a pl.length c]⟩, .agg ⟨[.int .i64 q1, .int .i64 q2, .int .i64 q3, .int .i64 q4, .int .i64 q5, .int .i64 q6, .slice a2 ql.length c2]⟩] h O _
  by_cases hh : p1 = q1 ∧ p2 = q2 ∧ p3 = q3 ∧ p4 = q4 ∧ p5 = q5 ∧ p6 = q6 ∧ pl.length = ql.length
  · obtain ⟨e1, e2, e3, e4, e5, e6, e7⟩ := hh
    refine GSpec.enter (fn := Tryz.f9) Tryz.func9 rfl (by kernel_rfl) ?_
    repeat' (conv => whnf
             first
             | (with_reducible refine NextSt.mk ?_)
             | (with_reducible refine OnBB.ff ?_)
             | ((with_reducible apply Cmp.no); · first | omega | (with_reducible assumption))
             | ((with_reducible apply LoadSt.box); · (repeat (first | exact List.Mem.head _ | with_reducible apply List.mem_append_right | with_reducible apply List.mem_cons_of_mem)))
             | ((with_reducible refine AllocSt.mk ?_); intro _b _hb _hbO))
    refine LoopSt.fix [4, 5, 55, 56, 57, 58, 59, 60, 61, 62, 63, 64, 65, 66, 67, 68, 69, 70, 71, 72] (fun (i : Nat) => [(5, iN i)]) (fun _ => _) (fun i => i ≤ pl.length ∧ ∀ j < i, pl.getD j default = ql.getD j default) (fun i => pl.length - i) (0) _ (Wk.refl _ _) (rfl) ?_ ?_ ?_
    · repeat' (first | exact True.intro | refine And.intro ?_ ?_ | rfl | exact congrArg (Value.int _) (by omega) | exact congrArg (fun n => Value.slice _ n _) (by (try dsimp only); omega))
    · exact ⟨Nat.zero_le _, fun j hj => by omega⟩
    · rintro i d ⟨hi, hall⟩
      by_cases hil : i < pl.length
      · by_cases hs : pl.getD i default = ql.getD i default
        · have e57 {K : Bool → Prop} (hK : K true) : EqSt Tryz.prog 66 (.agg ⟨shV (pl.getD i default)⟩) (.agg ⟨shV (ql.getD i default)⟩) K := eq57 (hi1 i hil) (hi2 i (by omega)) (by rw [decide_eq_true hs]; exact hK)
          repeat' (conv => whnf
                   first
                   | ((with_reducible refine e57 ?_))
                   | ((with_reducible refine DrawSt.walk [0, 1, 2, 3, 4, 5, 6, 7, 8, 9, 10] mixed ?_ ?_); · decide +kernel)
                   | ((with_reducible apply LoadSt.rdg (g := shV) (s := 2)); (· rfl); (· (repeat (first | with_reducible assumption | (with_reducible apply Buf.rd; with_reducible assumption) | (with_reducible apply Rd.appL; with_reducible assumption) | (with_reducible apply Rd.appL; with_reducible apply Buf.rd; with_reducible assumption) | (with_reducible apply Rd.ofH; with_reducible assumption) | (with_reducible apply Rd.ofH1; with_reducible assumption) | with_reducible apply Rd.cons | with_reducible apply Rd.appR))); (· exact fun _ => rfl); (· decide); · (first | omega | (simp only [List.length_map, List.length_append, List.length_cons, List.length_nil, List.length_take, List.length_drop, List.length_replicate, List.length_set] at *; omega)))
                   | ((with_reducible apply IdxSl.rdg (g := shV) (s := 2)); (· with_reducible assumption); (· exact fun _ => rfl); (· decide); (· rfl); (· first | with_reducible rfl | exact natL _); (· (first | omega | (simp only [List.length_map, List.length_append, List.length_cons, List.length_nil, List.length_take, List.length_drop, List.length_replicate, List.length_set] at *; omega))); · (first | omega | (simp only [List.length_map, List.length_append, List.length_cons, List.length_nil, List.length_take, List.length_drop, List.length_replicate, List.length_set] at *; omega)))
                   | (with_reducible refine NextSt.mk ?_)
                   | (with_reducible refine OnBB.tt ?_)
                   | (with_reducible refine OnBB.ff ?_)
                   | ((with_reducible apply NW.addN); (· first | with_reducible rfl | exact natL _); (· first | with_reducible rfl | exact natL _); (· omega))
                   | ((with_reducible apply Cmp.yes); · first | omega | (with_reducible assumption) | (with_reducible rfl))
                   | ((with_reducible apply LoadSt.box); · (repeat (first | exact List.Mem.head _ | with_reducible apply List.mem_append_right | with_reducible apply List.mem_cons_of_mem))))
          refine RoundFix.mk (i + 1) ?_ ?_ _ rfl (Wk.drop (by (try dsimp only); (try simp only [List.cons_append, List.nil_append]); (repeat (first | with_reducible exact List.Sublist.refl _ | with_reducible exact List.nil_sublist _ | with_reducible apply List.Sublist.cons_cons | with_reducible apply sub_app | apply List.Sublist.cons_cons | apply sub_app | with_reducible apply List.Sublist.cons | with_reducible apply sub_skip)))) ?_
          · omega
          · repeat' (first | exact True.intro | refine And.intro ?_ ?_ | rfl | exact congrArg (Value.int _) (by omega) | exact congrArg (fun n => Value.slice _ n _) (by (try dsimp only); omega))
          · refine ⟨hil, fun j hj => ?_⟩
            by_cases e : j = i
            · rw [e]; exact hs
            · exact hall j (by omega)
        · have e57 {K : Bool → Prop} (hK : K false) : EqSt Tryz.prog 66 (.agg ⟨shV (pl.getD i default)⟩) (.agg ⟨shV (ql.getD i default)⟩) K := eq57 (hi1 i hil) (hi2 i (by omega)) (by rw [decide_eq_false hs]; exact hK)
          rw [decide_eq_false fun hx => hs (by cases hx; rfl)]
          repeat' (conv => whnf
                   first
                   | ((with_reducible refine e57 ?_))
                   | ((with_reducible refine DrawSt.walk [0, 1, 2, 3, 4, 5, 6, 7, 8, 9, 10] mixed ?_ ?_); · decide +kernel)
                   | ((with_reducible apply LoadSt.rdg (g := shV) (s := 2)); (· rfl); (· (repeat (first | with_reducible assumption | (with_reducible apply Buf.rd; with_reducible assumption) | (with_reducible apply Rd.appL; with_reducible assumption) | (with_reducible apply Rd.appL; with_reducible apply Buf.rd; with_reducible assumption) | (with_reducible apply Rd.ofH; with_reducible assumption) | (with_reducible apply Rd.ofH1; with_reducible assumption) | with_reducible apply Rd.cons | with_reducible apply Rd.appR))); (· exact fun _ => rfl); (· decide); · (first | omega | (simp only [List.length_map, List.length_append, List.length_cons, List.length_nil, List.length_take, List.length_drop, List.length_replicate, List.length_set] at *; omega)))
                   | ((with_reducible apply IdxSl.rdg (g := shV) (s := 2)); (· with_reducible assumption); (· exact fun _ => rfl); (· decide); (· rfl); (· first | with_reducible rfl | exact natL _); (· (first | omega | (simp only [List.length_map, List.length_append, List.length_cons, List.length_nil, List.length_take, List.length_drop, List.length_replicate, List.length_set] at *; omega))); · (first | omega | (simp only [List.length_map, List.length_append, List.length_cons, List.length_nil, List.length_take, List.length_drop, List.length_replicate, List.length_set] at *; omega)))
                   | (with_reducible refine NextSt.mk ?_)
                   | (with_reducible refine OnBB.tt ?_)
                   | ((with_reducible apply Cmp.yes); · first | omega | (with_reducible assumption) | (with_reducible rfl))
                   | ((with_reducible apply LoadSt.box); · (repeat (first | exact List.Mem.head _ | with_reducible apply List.mem_append_right | with_reducible apply List.mem_cons_of_mem))))
          conv => whnf
          refine FinSt.ret (by (try dsimp only); (try simp only [List.cons_append, List.nil_append]); (repeat (first | with_reducible exact List.Sublist.refl _ | with_reducible exact List.nil_sublist _ | with_reducible apply List.Sublist.cons_cons | with_reducible apply sub_app | apply List.Sublist.cons_cons | apply sub_app | with_reducible apply List.Sublist.cons | with_reducible apply sub_skip))) ?_
          rfl
      · have he : pl = ql := by
          apply List.ext_getElem e7
          intro k h1 h2
          have := hall k (by omega)
          rw [List.getD_eq_getElem?_getD, List.getD_eq_getElem?_getD, List.getElem?_eq_getElem h1, List.getElem?_eq_getElem h2] at this
          exact this
        subst e1 e2 e3 e4 e5 e6 he
        rw [decide_eq_true rfl]
        repeat' (conv => whnf
                 first
                 | (with_reducible refine NextSt.mk ?_)
                 | (with_reducible refine OnBB.ff ?_)
                 | ((with_reducible apply Cmp.no); · first | omega | (with_reducible assumption))
                 | ((with_reducible apply LoadSt.box); · (repeat (first | exact List.Mem.head _ | with_reducible apply List.mem_append_right | with_reducible apply List.mem_cons_of_mem))))
        conv => whnf
        refine FinSt.ret (by (try dsimp only); (try simp only [List.cons_append, List.nil_append]); (repeat (first | with_reducible exact List.Sublist.refl _ | with_reducible exact List.nil_sublist _ | with_reducible apply List.Sublist.cons_cons | with_reducible apply sub_app | apply List.Sublist.cons_cons | apply sub_app | with_reducible apply List.Sublist.cons | with_reducible apply sub_skip))) ?_
        rfl
  · rw [decide_eq_false fun hx => hh (by cases hx; exact ⟨rfl, rfl, rfl, rfl, rfl, rfl, rfl⟩)]
    refine GSpec.enter (fn := Tryz.f9) Tryz.func9 rfl (by kernel_rfl) ?_
    repeat' (conv => whnf
             first
             | (with_reducible refine NextSt.mk ?_)
             | (with_reducible refine OnBB.tt ?_)
             | (with_reducible refine OnBB.ff ?_)
             | ((with_reducible apply Cmp.yes); · first | omega | (with_reducible assumption) | (with_reducible rfl))
             | ((with_reducible apply LoadSt.box); · (repeat (first | exact List.Mem.head _ | with_reducible apply List.mem_append_right | with_reducible apply List.mem_cons_of_mem)))
             | ((with_reducible refine AllocSt.mk ?_); intro _b _hb _hbO)
             | ((with_reducible refine Cmp.mk ?_ ?_) <;> intro _hc))
    all_goals try (conv => whnf)
    all_goals first | (refine FinSt.ret (by (try dsimp only); (try simp only [List.cons_append, List.nil_append]); (repeat (first | with_reducible exact List.Sublist.refl _ | with_reducible exact List.nil_sublist _ | with_reducible apply List.Sublist.cons_cons | with_reducible apply sub_app | apply List.Sublist.cons_cons | apply sub_app | with_reducible apply List.Sublist.cons | with_reducible apply sub_skip))) ?_; with_reducible rfl) | (exfalso; omega)
end Go.Proofs.YtaahjlhfmkjefaaGreatDoor
