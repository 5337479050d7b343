/- Functions of the program: visits, cases. -/
import Derived.Test.YtaahjlhfmkjefaaGreatDoorMf
import Derived.Test.YtaahjlhfmkjefaaGreatDoorAb
set_option linter.unusedVariables false
set_option linter.unusedSimpArgs false
set_option linter.unusedSectionVars false
/- The library's ContainsFunc and Clone, and the closure that asks whether a load can go on. -/
namespace Go.Proofs.YtaahjlhfmkjefaaGreatDoor
open Go Go.Gv
set_option maxRecDepth 100000
set_option maxHeartbeats 8000000
set_option linter.unusedSimpArgs false
set_option linter.unusedVariables false
theorem f90 (x y : Sp) (bx : Nat) (h : View) (O : Hp) (m : (bx, Obj.cells ⟨spV x⟩ 50 (0, 0)) ∈ O) : GSpec Tryz.prog 54 [.agg ⟨spV y⟩, .pointer (some ⟨bx, 0, none⟩)] h O (Ret O (.bool (decide (full (meetS x y))))) := by
  have hrx : Rd h O (some ⟨bx, 0, none⟩) (spV x) := Rd.own0 m
  obtain ⟨a, b⟩ := x
  obtain ⟨c, d⟩ := y
  have m' : (bx, Obj.cells ⟨[.int .i64 a, .int .i64 b]⟩ 50 (0, 0)) ∈ O := m
  show GSpec Tryz.prog 54 [.agg ⟨[.int .i64 c, .int .i64 d]⟩, _] h O _
  by_cases hf : full (meetS ⟨a, b⟩ ⟨c, d⟩)
  · rw [decide_eq_true hf]
    have hf' : ¬ min b d < max a c := by unfold full meetS at hf; simp only at hf; omega
    refine GSpec.enter (fn := Tryz.f54) Tryz.func54 rfl (by kernel_rfl) ?_
    repeat' (conv => whnf
             first
             | ((refine LoadSt.boxAgg (List.Mem.tail _ m') ?_))
             | ((with_reducible apply CallSt.rd (f := 47)); · (apply GSpec.cast (sp := f81 _ _ _ _ _ _); (· (repeat' (first | with_reducible rfl | refine congrArg₂ List.cons ?_ ?_ | exact iN_lit _ | rfl))); all_goals (first | with_reducible assumption | omega | ((repeat (first | with_reducible assumption | with_reducible apply xor_lt | with_reducible apply mul_lt | with_reducible exact pw_lt _ | with_reducible exact inv_lt _ | omega)); done) | ((repeat (first | with_reducible assumption | (with_reducible apply Buf.rd; with_reducible assumption) | (with_reducible apply Rd.appL; with_reducible assumption) | (with_reducible apply Rd.appL; with_reducible apply Buf.rd; with_reducible assumption) | (with_reducible apply Rd.ofH; with_reducible assumption) | (with_reducible apply Rd.ofH1; with_reducible assumption) | with_reducible apply Rd.cons | with_reducible apply Rd.appR)); done) | decide)))
             | ((with_reducible apply CallSt.decN (f := 49)); (· (apply GSpec.cast (sp := f91 _ _ _ _); (· (repeat' (first | with_reducible rfl | refine congrArg₂ List.cons ?_ ?_ | exact iN_lit _ | rfl))); all_goals (first | with_reducible assumption | omega | ((repeat (first | with_reducible assumption | with_reducible apply xor_lt | with_reducible apply mul_lt | with_reducible exact pw_lt _ | with_reducible exact inv_lt _ | omega)); done) | ((repeat (first | with_reducible assumption | (with_reducible apply Buf.rd; with_reducible assumption) | (with_reducible apply Rd.appL; with_reducible assumption) | (with_reducible apply Rd.appL; with_reducible apply Buf.rd; with_reducible assumption) | (with_reducible apply Rd.ofH; with_reducible assumption) | (with_reducible apply Rd.ofH1; with_reducible assumption) | with_reducible apply Rd.cons | with_reducible apply Rd.appR)); done) | decide))); · omega)
             | (with_reducible refine NextSt.mk ?_)
             | (with_reducible refine OnBB.ff ?_)
             | ((with_reducible apply LoadSt.boxAgg); · (repeat (first | exact List.Mem.head _ | with_reducible apply List.mem_append_right | with_reducible apply List.mem_cons_of_mem)))
             | ((with_reducible refine AllocSt.mk ?_); intro _b _hb _hbO))
    conv => whnf
    refine FinSt.ret (by (try dsimp only); (try simp only [List.cons_append, List.nil_append]); (repeat (first | with_reducible exact List.Sublist.refl _ | with_reducible exact List.nil_sublist _ | with_reducible apply List.Sublist.cons_cons | with_reducible apply sub_app | apply List.Sublist.cons_cons | apply sub_app | with_reducible apply List.Sublist.cons | with_reducible apply sub_skip))) ?_
    rfl
  · rw [decide_eq_false hf]
    have hf' : min b d < max a c := by unfold full meetS at hf; simp only at hf; omega
    refine GSpec.enter (fn := Tryz.f54) Tryz.func54 rfl (by kernel_rfl) ?_
    repeat' (conv => whnf
             first
             | ((refine LoadSt.boxAgg (List.Mem.tail _ m') ?_))
             | ((with_reducible apply CallSt.rd (f := 47)); · (apply GSpec.cast (sp := f81 _ _ _ _ _ _); (· (repeat' (first | with_reducible rfl | refine congrArg₂ List.cons ?_ ?_ | exact iN_lit _ | rfl))); all_goals (first | with_reducible assumption | omega | ((repeat (first | with_reducible assumption | with_reducible apply xor_lt | with_reducible apply mul_lt | with_reducible exact pw_lt _ | with_reducible exact inv_lt _ | omega)); done) | ((repeat (first | with_reducible assumption | (with_reducible apply Buf.rd; with_reducible assumption) | (with_reducible apply Rd.appL; with_reducible assumption) | (with_reducible apply Rd.appL; with_reducible apply Buf.rd; with_reducible assumption) | (with_reducible apply Rd.ofH; with_reducible assumption) | (with_reducible apply Rd.ofH1; with_reducible assumption) | with_reducible apply Rd.cons | with_reducible apply Rd.appR)); done) | decide)))
             | ((with_reducible apply CallSt.decY (f := 49)); (· (apply GSpec.cast (sp := f91 _ _ _ _); (· (repeat' (first | with_reducible rfl | refine congrArg₂ List.cons ?_ ?_ | exact iN_lit _ | rfl))); all_goals (first | with_reducible assumption | omega | ((repeat (first | with_reducible assumption | with_reducible apply xor_lt | with_reducible apply mul_lt | with_reducible exact pw_lt _ | with_reducible exact inv_lt _ | omega)); done) | ((repeat (first | with_reducible assumption | (with_reducible apply Buf.rd; with_reducible assumption) | (with_reducible apply Rd.appL; with_reducible assumption) | (with_reducible apply Rd.appL; with_reducible apply Buf.rd; with_reducible assumption) | (with_reducible apply Rd.ofH; with_reducible assumption) | (with_reducible apply Rd.ofH1; with_reducible assumption) | with_reducible apply Rd.cons | with_reducible apply Rd.appR)); done) | decide))); · omega)
             | (with_reducible refine NextSt.mk ?_)
             | (with_reducible refine OnBB.tt ?_)
             | ((with_reducible apply LoadSt.boxAgg); · (repeat (first | exact List.Mem.head _ | with_reducible apply List.mem_append_right | with_reducible apply List.mem_cons_of_mem)))
             | ((with_reducible refine AllocSt.mk ?_); intro _b _hb _hbO))
    conv => whnf
    refine FinSt.ret (by (try dsimp only); (try simp only [List.cons_append, List.nil_append]); (repeat (first | with_reducible exact List.Sublist.refl _ | with_reducible exact List.nil_sublist _ | with_reducible apply List.Sublist.cons_cons | with_reducible apply sub_app | apply List.Sublist.cons_cons | apply sub_app | with_reducible apply List.Sublist.cons | with_reducible apply sub_skip))) ?_
    rfl
theorem f103 (l : List Sp) (a : Option Addr) (c : Nat) (g : FuncId) (cap : List Value) (q : Sp → Bool) (hl : l.length ≤ 9223372036854775807) (h : View) (O : Hp) (hr : Rd h O a (l.flatMap spV)) (hcl : ∀ j < l.length, GSpec Tryz.prog g (.agg ⟨spV (l.getD j default)⟩ :: cap) h O (Ret O (.bool (q (l.getD j default))))) :
    GSpec Tryz.prog 70 [.slice a l.length c, .func (.func g) #[] ⟨cap⟩] h O (RetR O fun v => ∃ n : Int, v = .int .i64 n ∧ (0 ≤ n ↔ l.any q = true)) := by
  refine GSpec.enter (fn := Tryz.f70) Tryz.func70 rfl (by kernel_rfl) ?_
  repeat' (conv => whnf
           first
           | (with_reducible refine NextSt.mk ?_))
  refine LoopSt.fix [4, 5, 8, 9, 10, 11, 12, 13, 14, 15, 16, 17, 18] (fun (i : Nat) => [(8, iN i)]) (fun _ => _) (fun i => i ≤ l.length ∧ ∀ j < i, q (l.getD j default) = false) (fun i => l.length - i) (0) _ (Wk.refl _ _) (rfl) ?_ ?_ ?_
  · repeat' (first | exact True.intro | refine And.intro ?_ ?_ | rfl | exact congrArg (Value.int _) (by omega) | exact congrArg (fun n => Value.slice _ n _) (by (try dsimp only); omega))
  · exact ⟨Nat.zero_le _, fun j hj => by omega⟩
  · rintro i d ⟨hi, hall⟩
    by_cases hil : i < l.length
    · have hc := hcl i hil
      cases hq : q (l.getD i default) with
      | true =>
        rw [hq] at hc
        repeat' (conv => whnf
                 first
                 | (((apply CallSt.rd (f := g) (X := .bool true)); (· exact hc)))
                 | ((with_reducible apply LoadSt.rdg (g := spV) (s := 2)); (· rfl); (· (repeat (first | with_reducible assumption | (with_reducible apply Rd.any; with_reducible assumption) | (with_reducible apply Buf.rd; with_reducible assumption) | (with_reducible apply Rd.appL; with_reducible assumption) | (with_reducible apply Rd.appL; with_reducible apply Buf.rd; with_reducible assumption) | (with_reducible apply Rd.ofH; with_reducible assumption) | (with_reducible apply Rd.ofH1; with_reducible assumption) | with_reducible apply Rd.cons | with_reducible apply Rd.appR))); (· exact fun _ => rfl); (· decide); · (first | omega | (simp only [List.length_map, List.length_append, List.length_cons, List.length_nil, List.length_take, List.length_drop, List.length_replicate, List.length_set] at *; omega)))
                 | ((with_reducible apply IdxSl.rdg (g := spV) (s := 2)); (· with_reducible assumption); (· exact fun _ => rfl); (· decide); (· rfl); (· first | with_reducible rfl | exact natL _); (· (first | omega | (simp only [List.length_map, List.length_append, List.length_cons, List.length_nil, List.length_take, List.length_drop, List.length_replicate, List.length_set] at *; omega))); · (first | omega | (simp only [List.length_map, List.length_append, List.length_cons, List.length_nil, List.length_take, List.length_drop, List.length_replicate, List.length_set] at *; omega)))
                 | (with_reducible refine NextSt.mk ?_)
                 | (with_reducible refine OnBB.tt ?_)
                 | ((with_reducible apply Cmp.yes); · first | omega | (with_reducible assumption) | (with_reducible rfl)))
        conv => whnf
        exact FinSt.now ⟨rfl, (i : Nat), rfl, ⟨fun _ => List.any_eq_true.2 ⟨l.getD i default, by rw [List.getD_eq_getElem?_getD, List.getElem?_eq_getElem hil]; exact List.getElem_mem hil, hq⟩, fun _ => by omega⟩⟩
      | false =>
        rw [hq] at hc
        repeat' (conv => whnf
                 first
                 | (((apply CallSt.rd (f := g) (X := .bool false)); (· exact hc)))
                 | ((with_reducible apply LoadSt.rdg (g := spV) (s := 2)); (· rfl); (· (repeat (first | with_reducible assumption | (with_reducible apply Rd.any; with_reducible assumption) | (with_reducible apply Buf.rd; with_reducible assumption) | (with_reducible apply Rd.appL; with_reducible assumption) | (with_reducible apply Rd.appL; with_reducible apply Buf.rd; with_reducible assumption) | (with_reducible apply Rd.ofH; with_reducible assumption) | (with_reducible apply Rd.ofH1; with_reducible assumption) | with_reducible apply Rd.cons | with_reducible apply Rd.appR))); (· exact fun _ => rfl); (· decide); · (first | omega | (simp only [List.length_map, List.length_append, List.length_cons, List.length_nil, List.length_take, List.length_drop, List.length_replicate, List.length_set] at *; omega)))
                 | ((with_reducible apply IdxSl.rdg (g := spV) (s := 2)); (· with_reducible assumption); (· exact fun _ => rfl); (· decide); (· rfl); (· first | with_reducible rfl | exact natL _); (· (first | omega | (simp only [List.length_map, List.length_append, List.length_cons, List.length_nil, List.length_take, List.length_drop, List.length_replicate, List.length_set] at *; omega))); · (first | omega | (simp only [List.length_map, List.length_append, List.length_cons, List.length_nil, List.length_take, List.length_drop, List.length_replicate, List.length_set] at *; omega)))
                 | (with_reducible refine NextSt.mk ?_)
                 | (with_reducible refine OnBB.tt ?_)
                 | (with_reducible refine OnBB.ff ?_)
                 | ((with_reducible apply NW.addN); (· first | with_reducible rfl | exact natL _); (· first | with_reducible rfl | exact natL _); (· omega))
                 | ((with_reducible apply Cmp.yes); · first | omega | (with_reducible assumption) | (with_reducible rfl)))
        refine RoundFix.mk (i + 1) ?_ ?_ _ rfl (Wk.drop (by (try dsimp only); (try simp only [List.cons_append, List.nil_append]); (repeat (first | with_reducible exact List.Sublist.refl _ | with_reducible exact List.nil_sublist _ | with_reducible apply List.Sublist.cons_cons | with_reducible apply sub_app | apply List.Sublist.cons_cons | apply sub_app | with_reducible apply List.Sublist.cons | with_reducible apply sub_skip)))) ?_
        · omega
        · repeat' (first | exact True.intro | refine And.intro ?_ ?_ | rfl | exact congrArg (Value.int _) (by omega) | exact congrArg (fun n => Value.slice _ n _) (by (try dsimp only); omega))
        · refine ⟨hil, fun j hj => ?_⟩
          by_cases e : j = i
          · rw [e]; exact hq
          · exact hall j (by omega)
    · have hn : ¬ l.any q = true := by
        intro hx
        obtain ⟨y, hy, hqy⟩ := List.any_eq_true.1 hx
        obtain ⟨j, hj, rfl⟩ := List.mem_iff_getElem.1 hy
        have := hall j (by omega)
        rw [List.getD_eq_getElem?_getD, List.getElem?_eq_getElem hj] at this
        simp only [Option.getD_some] at this
        rw [this] at hqy; cases hqy
      repeat' (conv => whnf
               first
               | (with_reducible refine NextSt.mk ?_)
               | (with_reducible refine OnBB.ff ?_)
               | ((with_reducible apply Cmp.no); · first | omega | (with_reducible assumption)))
      conv => whnf
      exact FinSt.now ⟨rfl, -1, rfl, ⟨fun hx => by omega, fun hx => absurd hx hn⟩⟩
theorem f89 (l : List Sp) (a : Option Addr) (c : Nat) (g : FuncId) (cap : List Value) (q : Sp → Bool) (hl : l.length ≤ 9223372036854775807) (h : View) (O : Hp) (hr : Rd h O a (l.flatMap spV)) (hcl : ∀ j < l.length, GSpec Tryz.prog g (.agg ⟨spV (l.getD j default)⟩ :: cap) h O (Ret O (.bool (q (l.getD j default))))) :
    GSpec Tryz.prog 53 [.slice a l.length c, .func (.func g) #[] ⟨cap⟩] h O (Ret O (.bool (l.any q))) := by
  have e103 := f103 l a c g cap q hl h O hr hcl
  cases hq : l.any q with
  | true =>
    refine GSpec.enter (fn := Tryz.f53) Tryz.func53 rfl (by kernel_rfl) ?_
    repeat' (conv => whnf
             first
             | (((apply CallSt.rel (f := 70)); (· exact e103); rintro _ ⟨n, rfl, hn⟩; rw [hq] at hn; have hn0 := hn.2 rfl))
             | (with_reducible refine NextSt.mk ?_)
             | ((with_reducible apply Cmp.yes); · first | omega | (with_reducible assumption) | (with_reducible rfl)))
    conv => whnf
    refine FinSt.ret (by (try dsimp only); (try simp only [List.cons_append, List.nil_append]); (repeat (first | with_reducible exact List.Sublist.refl _ | with_reducible exact List.nil_sublist _ | with_reducible apply List.Sublist.cons_cons | with_reducible apply sub_app | apply List.Sublist.cons_cons | apply sub_app | with_reducible apply List.Sublist.cons | with_reducible apply sub_skip))) ?_
    rfl
  | false =>
    refine GSpec.enter (fn := Tryz.f53) Tryz.func53 rfl (by kernel_rfl) ?_
    repeat' (conv => whnf
             first
             | (((apply CallSt.rel (f := 70)); (· exact e103); rintro _ ⟨n, rfl, hn⟩; rw [hq] at hn; have hn0 : ¬ 0 ≤ n := fun e => (by have := hn.1 e; cases this)))
             | (with_reducible refine NextSt.mk ?_)
             | ((with_reducible apply Cmp.no); · first | omega | (with_reducible assumption)))
    conv => whnf
    refine FinSt.ret (by (try dsimp only); (try simp only [List.cons_append, List.nil_append]); (repeat (first | with_reducible exact List.Sublist.refl _ | with_reducible exact List.nil_sublist _ | with_reducible apply List.Sublist.cons_cons | with_reducible apply sub_app | apply List.Sublist.cons_cons | apply sub_app | with_reducible apply List.Sublist.cons | with_reducible apply sub_skip))) ?_
    rfl
/-- A list of numbers that a call hands on. -/
def NumR (l : List Int) (v : Value) (H : Hp) : Prop := ∃ a c, v = .slice a l.length c ∧ RdH H a (l.map zI) ∧ l.length ≤ c
theorem f92 (l : List Int) (a : Option Addr) (c : Nat) (h0 : 0 < l.length) (hl : l.length ≤ 1099511627776) (h : View) (O : Hp) (hr : Rd h O a (l.map zI)) : GSpec Tryz.prog 55 [.slice a l.length c] h O (New O (NumR l)) := by
  obtain ⟨b, o, rfl⟩ : ∃ b o, a = some ⟨b, o, none⟩ := ⟨_, _, hr.addr (k := 0) (by rw [List.length_map]; exact h0)⟩
  refine GSpec.enter (fn := Tryz.f55) Tryz.func55 rfl (by kernel_rfl) ?_
  repeat' (conv => whnf
           first
           | ((refine OnBB.no (b := Option.isNone (some _)) rfl ?_))
           | (((apply AppSt.row1 (g := zI) (xs := []) (ys := l) (n := 0) (b := Buf.of _b 0) (f := fun H => H ++ O) (z := .int .i64 0)); (· exact Loc.one); (· exact Buf.of_ok rfl); (· exact Rd.cons hr); (· rfl); (· (intro e; cases e)); (· (intro x; rfl)); (· rfl); (· rfl); (· rfl); (· rfl); (· (show _ * 8 ≤ _; omega)); (· omega); intro B hB))
           | (with_reducible refine NextSt.mk ?_)
           | (with_reducible refine OnBB.ff ?_)
           | ((with_reducible refine AllocSt.mk ?_); intro _b _hb _hbO))
  conv => whnf
  refine FinSt.new (H := B.hp 3 (l.map zI)) (by rw [List.nil_append]; exact List.Sublist.refl _) ⟨B.a, B.cap, ?_, ?_, ?_⟩
  · rw [Nat.zero_add]
  · rw [List.nil_append] at hB
    exact Buf.rd hB
  · have := Buf.le hB
    omega
end Go.Proofs.YtaahjlhfmkjefaaGreatDoor
/- The closure of cases: one state tried behind a beginning. -/
namespace Go.Proofs.YtaahjlhfmkjefaaGreatDoor
open Go Go.Gv
set_option maxRecDepth 100000
set_option maxHeartbeats 16000000
set_option linter.unusedSimpArgs false
set_option linter.unusedVariables false
/-- What stays the same while cases looks: the pillow, its weather, the table, the boxes. -/
structure VC where
  p : Pl
  w : List Sp
  a : Option Addr
  a2 : Option Addr
  ac : Option Addr
  c : Nat
  c2 : Nat
  bs : Nat
  bc : Nat
  bo : Nat
  bm : Nat
  bl : Nat
  bn : Nat
  bv : Nat
  most : Nat
def VC.caps (z : VC) : List Value := [.pointer (some ⟨z.bs, 0, none⟩), .pointer (some ⟨z.bc, 0, none⟩), .pointer (some ⟨z.bo, 0, none⟩), .pointer (some ⟨z.bm, 0, none⟩), .pointer (some ⟨z.bl, 0, none⟩), .pointer (some ⟨z.bn, 0, none⟩), .pointer (some ⟨z.bv, 0, none⟩)]
def gS (x : Option Addr × Nat × Nat) : Value := .slice x.1 x.2.1 x.2.2
def VC.story (z : VC) : List Value := [.int .i64 z.p.no, .int .i64 z.p.cell, .int .i64 z.p.noise, .int .i64 z.p.slab, .int .i64 z.p.jump, .int .i64 z.p.faults, .slice z.a z.p.log.length z.c, .slice z.a2 z.w.length z.c2]
def VC.hp (z : VC) (l : List Int) (L : Buf) (vs : List (Option Addr × Nat × Nat)) (B : Buf) (E : Hp) : Hp :=
  E ++ ((z.bv, .cells ⟨[.func (.func 52) #[] ⟨z.caps⟩]⟩ 100 (0, 0)) :: (z.bl, .cells ⟨[.slice L.a l.length L.cap]⟩ 38 (0, 0)) :: (z.bo, .cells ⟨[.slice B.a vs.length B.cap]⟩ 44 (0, 0)) :: (z.bc, .cells ⟨[.slice z.ac z.p.log.length z.p.log.length]⟩ 98 (0, 0))
    :: (z.bn, .cells ⟨[iN z.p.log.length]⟩ 3 (0, 0)) :: (z.bm, .cells ⟨[iN z.most]⟩ 3 (0, 0)) :: (z.bs, .cells ⟨z.story⟩ 81 (0, 0)) :: (L.hp 3 (l.map zI) ++ B.hp 38 (vs.map gS)))
theorem getD_app' {α : Type} {l m : List α} {i : Nat} {d : α} (h : i < l.length) : (l ++ m).getD i d = l.getD i d := by
  rw [List.getD_eq_getElem?_getD, List.getElem?_append_left h, ← List.getD_eq_getElem?_getD]
/-- The lists that lie in a slice of slices. -/
def OutT (E : Hp) (out : List (List Int)) (vs : List (Option Addr × Nat × Nat)) : Prop := vs.length = out.length ∧ ∀ i < out.length, (vs.getD i default).2.1 = (out.getD i []).length ∧ RdH E (vs.getD i default).1 ((out.getD i []).map zI) ∧ (vs.getD i default).2.1 ≤ (vs.getD i default).2.2
theorem OutT.more {E E' : Hp} {out : List (List Int)} {vs : List (Option Addr × Nat × Nat)} (H : OutT E out vs) (hs : ∀ b o, (b, o) ∈ E → (b, o) ∈ E') : OutT E' out vs := ⟨H.1, fun i hi => ⟨(H.2 i hi).1, (H.2 i hi).2.1.more (fun _ _ e => e) hs, (H.2 i hi).2.2⟩⟩
theorem OutT.push {E : Hp} {out : List (List Int)} {vs : List (Option Addr × Nat × Nat)} {x : Option Addr × Nat × Nat} {l : List Int} (H : OutT E out vs) (h1 : x.2.1 = l.length) (h2 : RdH E x.1 (l.map zI)) (h3 : x.2.1 ≤ x.2.2) : OutT E (out ++ [l]) (vs ++ [x]) := by
  refine ⟨by rw [List.length_append, List.length_append, H.1]; rfl, fun i hi => ?_⟩
  rw [List.length_append] at hi
  by_cases e : i < out.length
  · rw [getD_app' (by rw [H.1]; exact e), getD_app' e]
    exact H.2 i e
  · have : i = out.length := by simp at hi; omega
    subst this
    rw [show (out ++ [l]).getD out.length [] = l from getD_last, show (vs ++ [x]).getD out.length default = x by rw [← H.1]; exact getD_last]
    exact ⟨h1, h2, h3⟩
structure VI (l : List Int) (L : Buf) (out : List (List Int)) (vs : List (Option Addr × Nat × Nat)) (B : Buf) (E : Hp) : Prop where
  l : L.ok 1 (l.map zI) l.length
  b : B.ok 1 (vs.map gS) vs.length
  t : OutT E out vs
def VR (z : VC) (l : List Int) (out : List (List Int)) (O : Hp) : Prop := ∃ L vs B E, VI l L out vs B E ∧ O = z.hp l L vs B E
/-- The last element is given up; its cell stays. -/
def Buf.back (L : Buf) (s : Int) : Buf := ⟨L.a, L.cap, zI s :: L.pad, L.fr⟩
theorem Buf.back_ok {L : Buf} {l : List Int} {s : Int} (h : L.ok 1 ((l ++ [s]).map zI) (l.length + 1)) : (Buf.back L s).ok 1 (l.map zI) l.length := by
  refine ⟨by rw [List.length_map, Nat.mul_one], .inr ?_⟩
  rcases h.2 with h1 | h1
  · omega
  · exact ⟨h1.1, by show _ ≤ L.cap; omega, by show (zI s :: L.pad).length = (L.cap - l.length) * 1; rw [List.length_cons, h1.2.2.1]; omega, h1.2.2.2⟩
theorem Buf.back_hp (L : Buf) (l : List Int) (s : Int) : (Buf.back L s).hp 3 (l.map zI) = L.hp 3 ((l ++ [s]).map zI) := by
  obtain ⟨a, cap, pad, fr⟩ := L
  cases a with
  | none => rfl
  | some a => simp [Buf.back, Buf.hp]
theorem f94 (z : VC) (bx bi i t r : Nat) (X : Sp) (l1 : List Int) (out out' : List (List Int)) (hx : 0 ≤ X.lo ∧ X.lo ≤ 65536 ∧ 0 ≤ X.hi ∧ X.hi ≤ 65536) (hw : wOk z.p z.w) (hi : i < z.w.length) (hi2 : i ≤ 100) (h : View) (hr2 : Rd h [] z.a2 (z.w.flatMap spV))
    (hcall : ∀ O, VR z l1 out O → GSpec Tryz.prog 52 (iN (i + 1) :: iN t :: iN r :: .agg ⟨spV (addS X (z.w.getD i default))⟩ :: z.caps) h O fun _ _ O' => VR z l1 out' O') (O : Hp) (hO : VR z l1 out O) :
    GSpec Tryz.prog 57 [.int .i64 (t : Nat), iN r, .pointer (some ⟨z.bv, 0, none⟩), .pointer (some ⟨bi, 0, none⟩), .pointer (some ⟨bx, 0, none⟩), .pointer (some ⟨z.bs, 0, none⟩)] h ((bx, .cells ⟨spV X⟩ 50 (0, 0)) :: (bi, .cells ⟨[iN i]⟩ 3 (0, 0)) :: O)
      (fun _ _ O' => ∃ O2, O' = (bx, .cells ⟨spV X⟩ 50 (0, 0)) :: (bi, .cells ⟨[iN i]⟩ 3 (0, 0)) :: O2 ∧ VR z l1 out' O2) := by
  have ec := hcall O hO
  obtain ⟨L, vs, B, E, hV, rfl⟩ := hO
  have hwa := wOk_at hw i
  generalize hG : z.hp l1 L vs B E = G at ec ⊢
  have hm1 : (z.bv, Obj.cells ⟨[.func (.func 52) #[] ⟨z.caps⟩]⟩ 100 (0, 0)) ∈ G := by rw [← hG]; exact List.mem_append_right _ (List.Mem.head _)
  have hm2 : (z.bs, Obj.cells ⟨z.story⟩ 81 (0, 0)) ∈ G := by
    rw [← hG]; unfold VC.hp; refine List.mem_append_right _ ?_
    (repeat (first | exact List.Mem.head _ | with_reducible apply List.mem_append_right | with_reducible apply List.mem_cons_of_mem))
  refine GSpec.enter (fn := Tryz.f57) Tryz.func57 rfl (by kernel_rfl) ?_
  repeat' (conv => whnf
           first
           | (((with_reducible refine DrawSt.walkT [0, 1, 2, 3, 4, 5, 6, 7, 8, 9, 10, 11] 12 [] mixed ?_ ?_); · decide +kernel))
           | ((refine LoadSt.box (b := z.bv) (List.mem_cons_of_mem _ (List.mem_cons_of_mem _ hm1)) ?_))
           | ((refine LoadSt.box (b := z.bs) (List.mem_cons_of_mem _ (List.mem_cons_of_mem _ hm2)) ?_))
           | (((apply CallSt.loc (f := 52) (H := G)); (· exact Loc.tl (Loc.tl Loc.last)); (· exact ec); intro _ O2 hO2))
           | ((with_reducible apply CallG.rd (f := 48)); · (apply GSpec.cast (sp := f82 _ _ _ _ ?_ ?_ _ _); (· (repeat' (first | with_reducible rfl | refine congrArg₂ List.cons ?_ ?_ | exact iN_lit _ | rfl))); all_goals (first | with_reducible assumption | omega | ((repeat (first | with_reducible assumption | with_reducible apply xor_lt | with_reducible apply mul_lt | with_reducible exact pw_lt _ | with_reducible exact inv_lt _ | omega)); done) | ((repeat (first | with_reducible assumption | (with_reducible apply Buf.rd; with_reducible assumption) | (with_reducible apply Rd.appL; with_reducible assumption) | (with_reducible apply Rd.appL; with_reducible apply Buf.rd; with_reducible assumption) | (with_reducible apply Rd.ofH; with_reducible assumption) | (with_reducible apply Rd.ofH1; with_reducible assumption) | with_reducible apply Rd.cons | with_reducible apply Rd.appR)); done) | decide)))
           | ((with_reducible apply LoadSt.rdg (g := spV) (s := 2)); (· rfl); (· (repeat (first | with_reducible assumption | (with_reducible apply Rd.any; with_reducible assumption) | (with_reducible apply Buf.rd; with_reducible assumption) | (with_reducible apply Rd.appL; with_reducible assumption) | (with_reducible apply Rd.appL; with_reducible apply Buf.rd; with_reducible assumption) | (with_reducible apply Rd.ofH; with_reducible assumption) | (with_reducible apply Rd.ofH1; with_reducible assumption) | with_reducible apply Rd.cons | with_reducible apply Rd.appR))); (· exact fun _ => rfl); (· decide); · (first | omega | (simp only [List.length_map, List.length_append, List.length_cons, List.length_nil, List.length_take, List.length_drop, List.length_replicate, List.length_set] at *; omega)))
           | ((with_reducible apply IdxSl.rdg (g := spV) (s := 2)); (· with_reducible assumption); (· exact fun _ => rfl); (· decide); (· rfl); (· first | with_reducible rfl | exact natL _); (· (first | omega | (simp only [List.length_map, List.length_append, List.length_cons, List.length_nil, List.length_take, List.length_drop, List.length_replicate, List.length_set] at *; omega))); · (first | omega | (simp only [List.length_map, List.length_append, List.length_cons, List.length_nil, List.length_take, List.length_drop, List.length_replicate, List.length_set] at *; omega)))
           | (with_reducible refine NextSt.mk ?_)
           | ((with_reducible apply NW.addN); (· first | with_reducible rfl | exact natL _); (· first | with_reducible rfl | exact natL _); (· omega))
           | ((with_reducible apply LoadSt.box); · (repeat (first | exact List.Mem.head _ | with_reducible apply List.mem_append_right | with_reducible apply List.mem_cons_of_mem)))
           | ((with_reducible apply LoadSt.boxAgg); · (repeat (first | exact List.Mem.head _ | with_reducible apply List.mem_append_right | with_reducible apply List.mem_cons_of_mem))))
  conv => whnf
  exact FinSt.own (R := fun _ O' => ∃ O2, O' = (bx, .cells ⟨spV X⟩ 50 (0, 0)) :: (bi, .cells ⟨[iN i]⟩ 3 (0, 0)) :: O2 ∧ VR z l1 out' O2) (List.Sublist.refl _) ⟨O2, rfl, hO2⟩
end Go.Proofs.YtaahjlhfmkjefaaGreatDoor
/- The closure of cases, on and on: the cases behind a beginning are put behind those that are found. -/
namespace Go.Proofs.YtaahjlhfmkjefaaGreatDoor
open Go Go.Gv
set_option maxRecDepth 100000
set_option maxHeartbeats 16000000
set_option linter.unusedSimpArgs false
set_option linter.unusedVariables false
/-- What cases asks of its blocks. -/
structure VS (z : VC) (h : View) (tab : List Value) : Prop where
  p : pOk z.p
  w : wOk z.p z.w
  m : z.most ≤ 1000000
  r : Rd h [] z.a (z.p.log.flatMap shV)
  r2 : Rd h [] z.a2 (z.w.flatMap spV)
  vs : Rd h [] z.ac tab
  t : TabT h [] z.p z.w 0 tab
/-- What the closure does, k entries ahead of the last one. -/
def P88 (z : VC) (h : View) (k : Nat) : Prop := ∀ (i : Nat) (pre : List Int) (s left : Nat) (x : Sp) (out : List (List Int)), i + k + 1 = z.p.log.length → pre.length = i → begun z.p z.w pre → s < 3 → stepOk z.p (pre ++ [(s : Int)]) i →
    (cnt2 (pre ++ [(s : Int)]) : Int) + left = z.p.faults → meetS x (loadsI z.p i (s : Nat)) = fwd z.p z.w (pre ++ [(s : Int)]) i → out.length ≤ z.most + 1 → ∀ O, VR z pre out O →
    GSpec Tryz.prog 52 (iN i :: iN s :: iN left :: .agg ⟨spV x⟩ :: z.caps) h O fun _ _ O' => VR z pre (lim (z.most + 1) out (sub z.p z.w k pre (s : Nat))) O'
theorem f88_step (z : VC) (tab : List Value) (h : View) (hz : VS z h tab) (k : Nat) (ih : ∀ k', k = k' + 1 → P88 z h k') : P88 z h k := by
  intro i pre s left x out hik hpre hbeg hs hstep hc hX hout O hO
  obtain ⟨L, vs, B, E, hV, rfl⟩ := hO
  have hl := hz.p.1.2.2.2.2.2.2
  have hfa := hz.p.1.2.2.2.2.2.1
  have hmm := hz.m
  have hvo := hV.t.1
  have hw : ∀ i, full (z.w.getD i default) := fun j => (wOk_at hz.w j).1
  have hin := loads_in z.p i (s : Nat) (hz.p.2 i (by omega)).2.1 hz.p.1.2.2.1.1 hz.p.1.2.2.2.1.1
  have e72 := fun O => f72 z.p z.a z.c i (s : Nat) hz.p (by omega) h O hz.r.any
  have htl := hz.t.1
  have hv1 : tab[i * 3 + s]? = some (tab.getD (i * 3 + s) undef) := getD_some (by omega)
  obtain ⟨b1, us, hb1, hul, hus, hall⟩ := hz.t.2 i (Nat.zero_le _) (by omega) s hs
  rw [hb1] at hv1
  have hlf : left ≤ z.p.faults.toNat := by omega
  have hu1 : us[left]? = some (us.getD left undef) := getD_some (by omega)
  obtain ⟨la, lc, hl1, hlr⟩ := hall left hlf
  rw [hl1] at hu1
  rw [show z.p.log.length - 1 - i = k by omega] at hu1 hlr
  have hcin := chF_in hz.p k i (s : Nat) left (w := z.w) (by omega)
  have hdead := vis_dead (p := z.p) (w := z.w) (l := pre) (s := (s : Nat)) (i := i) (k := k) (left := left) hw hpre hc
  have hpl : (pre ++ [(s : Int)]).length = pre.length + 1 := by rw [List.length_append]; rfl
  have e89 := fun (bx : Nat) (O : Hp) (m : (bx, Obj.cells ⟨spV (meetS x (loadsI z.p i (s : Nat)))⟩ 50 (0, 0)) ∈ O) => f89 (chF z.p z.w k i (s : Nat) left) la lc 54 [.pointer (some ⟨bx, 0, none⟩)] (fun y => decide (full (meetS (meetS x (loadsI z.p i (s : Nat))) y))) (by omega) h O hlr.any fun j hj => f90 _ _ bx h O m
  generalize chF z.p z.w k i (s : Nat) left = l at *
  unfold VC.hp
  show GSpec Tryz.prog 52 [iN i, iN s, iN left, .agg ⟨spV x⟩, .pointer (some ⟨z.bs, 0, none⟩), .pointer (some ⟨z.bc, 0, none⟩), .pointer (some ⟨z.bo, 0, none⟩), .pointer (some ⟨z.bm, 0, none⟩), .pointer (some ⟨z.bl, 0, none⟩), .pointer (some ⟨z.bn, 0, none⟩), .pointer (some ⟨z.bv, 0, none⟩)] h _ _
  by_cases hany : l.any (fun y => decide (full (meetS (meetS x (loadsI z.p i (s : Nat))) y))) = true
  · rw [hany] at e89
    have hfull : full (meetS x (loadsI z.p i (s : Nat))) := by
      obtain ⟨y, hy, hf⟩ := List.any_eq_true.1 hany
      exact full_meet (of_decide_eq_true hf)
    have hgood := vis_good hpre hbeg hstep hc (by rw [← hX]; exact hfull)
    have hXb : 0 ≤ (meetS x (loadsI z.p i (s : Nat))).lo ∧ (meetS x (loadsI z.p i (s : Nat))).lo ≤ 65536 ∧ 0 ≤ (meetS x (loadsI z.p i (s : Nat))).hi ∧ (meetS x (loadsI z.p i (s : Nat))).hi ≤ 65536 := by
      unfold full at hfull
      have h1 : (loadsI z.p i (s : Nat)).lo ≤ (meetS x (loadsI z.p i (s : Nat))).lo := by show _ ≤ max _ _; omega
      have h2 : (meetS x (loadsI z.p i (s : Nat))).hi ≤ (loadsI z.p i (s : Nat)).hi := by show min _ _ ≤ _; omega
      omega
    by_cases hfullO : z.most < out.length
    · have hout1 : out.length = z.most + 1 := by omega
      rw [lim_full hout1]
      refine GSpec.enter (fn := Tryz.f52) Tryz.func52 rfl (by kernel_rfl) ?_
      repeat' (conv => whnf
               first
               | (((with_reducible refine CallG.rd (f := 46) (X := .agg ⟨spV (loadsI z.p i (s : Nat))⟩) ?_ ?_); (· exact e72 _)))
               | (((with_reducible apply IdxSl.rd 3); (· exact hz.vs); (· rfl); (· first | with_reducible rfl | exact natL _); (· omega); (· omega)))
               | ((rw [show ofs z.ac + i * 3 + s = ofs z.ac + (i * 3 + s) from Nat.add_assoc _ _ _]; refine LoadSt.rd hz.vs.any hv1 ?_))
               | ((refine LoadSt.rd (a := some ⟨b1, 0, none⟩) (k := left) hus.any hu1 ?_))
               | (((with_reducible refine CallSt.rd (f := 53) (X := .bool true) ?_ ?_); (· exact e89 _ _ (List.Mem.head _))))
               | ((with_reducible refine DrawSt.walk [0, 1, 2, 3, 4, 5, 6, 7] mixed ?_ ?_); · decide +kernel)
               | ((with_reducible apply CallG.rd (f := 47)); · (apply GSpec.cast (sp := f81 _ _ _ _ _ _); (· (repeat' (first | with_reducible rfl | refine congrArg₂ List.cons ?_ ?_ | exact iN_lit _ | rfl))); all_goals (first | with_reducible assumption | omega | ((repeat (first | with_reducible assumption | with_reducible apply xor_lt | with_reducible apply mul_lt | with_reducible exact pw_lt _ | with_reducible exact inv_lt _ | omega)); done) | ((repeat (first | with_reducible assumption | (with_reducible apply Buf.rd; with_reducible assumption) | (with_reducible apply Rd.appL; with_reducible assumption) | (with_reducible apply Rd.appL; with_reducible apply Buf.rd; with_reducible assumption) | (with_reducible apply Rd.ofH; with_reducible assumption) | (with_reducible apply Rd.ofH1; with_reducible assumption) | with_reducible apply Rd.cons | with_reducible apply Rd.appR)); done) | decide)))
               | (with_reducible refine NextSt.mk ?_)
               | (with_reducible refine OnBB.tt ?_)
               | (with_reducible refine OnBB.ff ?_)
               | ((with_reducible apply Cmp.yes); · first | omega | (with_reducible assumption) | (with_reducible rfl))
               | ((with_reducible apply LoadSt.box); · (repeat (first | exact List.Mem.head _ | with_reducible apply List.mem_append_right | with_reducible apply List.mem_cons_of_mem)))
               | ((with_reducible apply LoadSt.boxAgg); · (repeat (first | exact List.Mem.head _ | with_reducible apply List.mem_append_right | with_reducible apply List.mem_cons_of_mem)))
               | ((with_reducible refine AllocSt.mk ?_); intro _b _hb _hbO)
               | ((with_reducible apply StoreSt.box); (· (repeat (first | exact Upd.hd | apply Upd.tl | apply Upd.app))); (· rfl); (· rfl); (· rfl))
               | ((with_reducible apply IdxArrP.n1); (· rfl); (· first | with_reducible rfl | exact natL _); · omega)
               | ((with_reducible apply IdxSl.own1); (· rfl); (· first | with_reducible rfl | exact natL _); · (first | omega | (simp only [List.length_map, List.length_append, List.length_cons, List.length_nil, List.length_take, List.length_drop, List.length_replicate, List.length_set] at *; omega))))
      exact FinSt.own (R := fun _ O' => VR z pre out O') (O1 := z.hp pre L vs B E) (List.Sublist.cons _ (List.Sublist.cons _ (List.Sublist.refl _))) ⟨L, vs, B, E, hV, rfl⟩
    · cases k with
      | zero =>
        have hlast : i = z.p.log.length - 1 := by omega
        rw [vis_leaf hgood, lim_one (by omega)]
        have e92 := fun L1 (hL1 : Buf.ok L1 1 ((pre ++ [(s : Int)]).map zI) (pre ++ [(s : Int)]).length) O hr => f92 (pre ++ [(s : Int)]) L1.a L1.cap (by omega) (by omega) h O hr
        refine GSpec.enter (fn := Tryz.f52) Tryz.func52 rfl (by kernel_rfl) ?_
        repeat' (conv => whnf
                 first
                 | (((with_reducible refine CallG.rd (f := 46) (X := .agg ⟨spV (loadsI z.p i (s : Nat))⟩) ?_ ?_); (· exact e72 _)))
                 | (((with_reducible apply IdxSl.rd 3); (· exact hz.vs); (· rfl); (· first | with_reducible rfl | exact natL _); (· omega); (· omega)))
                 | ((rw [show ofs z.ac + i * 3 + s = ofs z.ac + (i * 3 + s) from Nat.add_assoc _ _ _]; refine LoadSt.rd hz.vs.any hv1 ?_))
                 | ((refine LoadSt.rd (a := some ⟨b1, 0, none⟩) (k := left) hus.any hu1 ?_))
                 | (((with_reducible refine CallSt.rd (f := 53) (X := .bool true) ?_ ?_); (· exact e89 _ _ (List.Mem.head _))))
                 | (((apply AppSt.lit1 (g := zI) (x := (s : Nat)) (xs := pre) (z := .int .i64 0)); (· (repeat (first | with_reducible exact Loc.hd | with_reducible exact Loc.last | with_reducible exact Loc.one | with_reducible apply Loc.tl | with_reducible apply Loc.skip))); (· exact hV.l); (· (repeat (first | exact List.Mem.head _ | with_reducible apply List.mem_append_right | with_reducible apply List.mem_cons_of_mem))); (· rfl); (· rfl); (· rfl); (· rfl); (· rfl); (· rfl); (· (show _ * 8 ≤ _; omega)); (· omega); intro L1 hL1; rw [← hpl] at hL1 ⊢; have hLc := Buf.le hL1))
                 | (((with_reducible refine CallG.new (f := 55) (R := (NumR (pre ++ [(s : Int)]))) ?_ ?_); (· exact e92 L1 hL1 _ (by (repeat (first | with_reducible assumption | (with_reducible apply Buf.rd; with_reducible assumption) | (with_reducible apply Rd.appL; with_reducible assumption) | (with_reducible apply Rd.appL; with_reducible apply Buf.rd; with_reducible assumption) | (with_reducible apply Rd.ofH; with_reducible assumption) | (with_reducible apply Rd.ofH1; with_reducible assumption) | with_reducible apply Rd.cons | with_reducible apply Rd.appR)))); rintro _ H1 ⟨ra, rc, rfl, hrr, hrl⟩))
                 | (((apply AppSt.lit1 (g := gS) (x := (ra, (pre ++ [(s : Int)]).length, rc)) (xs := vs) (z := .slice none 0 0)); (· (repeat (first | with_reducible exact Loc.hd | with_reducible exact Loc.last | with_reducible exact Loc.one | with_reducible apply Loc.tl | with_reducible apply Loc.skip))); (· exact hV.b); (· (repeat (first | exact List.Mem.head _ | with_reducible apply List.mem_append_right | with_reducible apply List.mem_cons_of_mem))); (· rfl); (· rfl); (· rfl); (· rfl); (· rfl); (· rfl); (· (show _ * 24 ≤ _; omega)); (· omega); intro B1 hB1))
                 | ((with_reducible refine DrawSt.walk [0, 1, 2, 3, 4, 5, 6, 7] mixed ?_ ?_); · decide +kernel)
                 | ((with_reducible refine DrawSt.walk [0, 1, 2, 3, 4, 5] mixed ?_ ?_); · decide +kernel)
                 | ((with_reducible apply CallG.rd (f := 47)); · (apply GSpec.cast (sp := f81 _ _ _ _ _ _); (· (repeat' (first | with_reducible rfl | refine congrArg₂ List.cons ?_ ?_ | exact iN_lit _ | rfl))); all_goals (first | with_reducible assumption | omega | ((repeat (first | with_reducible assumption | with_reducible apply xor_lt | with_reducible apply mul_lt | with_reducible exact pw_lt _ | with_reducible exact inv_lt _ | omega)); done) | ((repeat (first | with_reducible assumption | (with_reducible apply Buf.rd; with_reducible assumption) | (with_reducible apply Rd.appL; with_reducible assumption) | (with_reducible apply Rd.appL; with_reducible apply Buf.rd; with_reducible assumption) | (with_reducible apply Rd.ofH; with_reducible assumption) | (with_reducible apply Rd.ofH1; with_reducible assumption) | with_reducible apply Rd.cons | with_reducible apply Rd.appR)); done) | decide)))
                 | (with_reducible refine NextSt.mk ?_)
                 | (with_reducible refine OnBB.tt ?_)
                 | (with_reducible refine OnBB.ff ?_)
                 | ((with_reducible apply NW.subN); (· first | with_reducible rfl | exact natL _); (· first | with_reducible rfl | exact natL _); (· omega))
                 | ((with_reducible apply Cmp.yes); · first | omega | (with_reducible assumption) | (with_reducible rfl))
                 | ((with_reducible apply Cmp.no); · first | omega | (with_reducible assumption))
                 | ((with_reducible apply LoadSt.box); · (repeat (first | exact List.Mem.head _ | with_reducible apply List.mem_append_right | with_reducible apply List.mem_cons_of_mem)))
                 | ((with_reducible apply LoadSt.boxAgg); · (repeat (first | exact List.Mem.head _ | with_reducible apply List.mem_append_right | with_reducible apply List.mem_cons_of_mem)))
                 | ((with_reducible refine AllocSt.mk ?_); intro _b _hb _hbO)
                 | ((with_reducible apply StoreSt.box); (· (repeat (first | exact Upd.hd | apply Upd.tl | apply Upd.app))); (· rfl); (· rfl); (· rfl))
                 | ((with_reducible apply IdxArrP.n1); (· rfl); (· first | with_reducible rfl | exact natL _); · omega)
                 | ((with_reducible apply IdxSl.own1); (· rfl); (· first | with_reducible rfl | exact natL _); · (first | omega | (simp only [List.length_map, List.length_append, List.length_cons, List.length_nil, List.length_take, List.length_drop, List.length_replicate, List.length_set] at *; omega)))
                 | ((with_reducible apply SlSl.hi); (· first | with_reducible rfl | exact natL _); (· (first | omega | (simp only [List.length_map, List.length_append, List.length_cons, List.length_nil, List.length_take, List.length_drop, List.length_replicate, List.length_set] at *; omega)))))
        have hpm : (pre ++ [(s : Int)]).length - 1 = pre.length := by omega
        have hvl1 : (vs ++ [(ra, (pre ++ [(s : Int)]).length, rc)]).length = vs.length + 1 := by rw [List.length_append]; rfl
        rw [hpm]
        refine FinSt.own (R := fun _ O' => VR z pre (out ++ [pre ++ [(s : Int)]]) O') (O1 := z.hp pre (Buf.back L1 s) (vs ++ [(ra, (pre ++ [(s : Int)]).length, rc)]) B1 (H1 ++ E)) ?_
          ⟨Buf.back L1 s, _, B1, H1 ++ E, ⟨Buf.back_ok (by rw [← hpl]; exact hL1), by rw [hvl1]; exact hB1, (hV.t.more fun b o m => List.mem_append_right _ m).push rfl hrr.app hrl⟩, rfl⟩
        unfold VC.hp
        rw [Buf.back_hp, List.append_assoc, hvl1, show (Buf.back L1 s).a = L1.a from rfl, show (Buf.back L1 s).cap = L1.cap from rfl]
        (try dsimp only); (try simp only [List.cons_append, List.nil_append]); (repeat (first | with_reducible exact List.Sublist.refl _ | with_reducible exact List.nil_sublist _ | with_reducible apply List.Sublist.cons_cons | with_reducible apply sub_app | apply List.Sublist.cons_cons | apply sub_app | with_reducible apply List.Sublist.cons | with_reducible apply sub_skip))
      | succ k =>
        have hwl := hz.w.1
        have ht0 : OutT E (lim (z.most + 1) out (visN z.p z.w k (pre ++ [(s : Int)]) [])) vs := by rw [show visN z.p z.w k (pre ++ [(s : Int)]) [] = [] from rfl, lim_nil (by omega)]; exact hV.t
        rw [vis_node hpre hc hgood]
        have e93 := fun (bx bi : Nat) => f93 z.p z.w z.a z.a2 z.c z.c2 i (s : Nat) left 57 [.pointer (some ⟨z.bv, 0, none⟩), .pointer (some ⟨bi, 0, none⟩), .pointer (some ⟨bx, 0, none⟩), .pointer (some ⟨z.bs, 0, none⟩)]
          (fun done H => ∃ O2, H = (bx, .cells ⟨spV (meetS x (loadsI z.p i (s : Nat)))⟩ 50 (0, 0)) :: (bi, .cells ⟨[iN i]⟩ 3 (0, 0)) :: O2 ∧ VR z (pre ++ [(s : Int)]) (lim (z.most + 1) out (visN z.p z.w k (pre ++ [(s : Int)]) done)) O2) hz.p (by omega) (by omega) h hz.r
          (fun done y rest hsp H ⟨O2, hH, hVR⟩ => by
            subst hH
            obtain ⟨y1, r⟩ := y
            have hy := nexts_step (w := z.w) (x := (y1, r)) hpre hc (by rw [hsp]; simp)
            simp only at hy
            obtain ⟨t, rfl⟩ : ∃ t : Nat, y1 = (t : Nat) := ⟨y1.toNat, by omega⟩
            refine f94 z bx bi i t r _ (pre ++ [(s : Int)]) _ _ hXb hz.w (by omega) (by omega) h hz.r2 (fun O hO => ?_) O2 hVR
            have e := ih k rfl (i + 1) (pre ++ [(s : Int)]) t r (addS (meetS x (loadsI z.p i (s : Nat))) (z.w.getD i default)) (lim (z.most + 1) out (visN z.p z.w k (pre ++ [(s : Int)]) done)) (by omega) (by omega) (good_begun hgood) (by omega) hy.2.2.1 hy.2.2.2
              (by rw [hX]; exact fwd_next (by omega)) lim_le O hO
            rw [lim_lim, ← visN_app z.p z.w k (pre ++ [(s : Int)]) done ((t : Nat), r)] at e
            exact e)
        refine GSpec.enter (fn := Tryz.f52) Tryz.func52 rfl (by kernel_rfl) ?_
        repeat' (conv => whnf
                 first
                 | (((with_reducible refine CallG.rd (f := 46) (X := .agg ⟨spV (loadsI z.p i (s : Nat))⟩) ?_ ?_); (· exact e72 _)))
                 | (((with_reducible apply IdxSl.rd 3); (· exact hz.vs); (· rfl); (· first | with_reducible rfl | exact natL _); (· omega); (· omega)))
                 | ((rw [show ofs z.ac + i * 3 + s = ofs z.ac + (i * 3 + s) from Nat.add_assoc _ _ _]; refine LoadSt.rd hz.vs.any hv1 ?_))
                 | ((refine LoadSt.rd (a := some ⟨b1, 0, none⟩) (k := left) hus.any hu1 ?_))
                 | (((with_reducible refine CallSt.rd (f := 53) (X := .bool true) ?_ ?_); (· exact e89 _ _ (List.Mem.head _))))
                 | (((apply AppSt.lit1 (g := zI) (x := (s : Nat)) (xs := pre) (z := .int .i64 0)); (· (repeat (first | with_reducible exact Loc.hd | with_reducible exact Loc.last | with_reducible exact Loc.one | with_reducible apply Loc.tl | with_reducible apply Loc.skip))); (· exact hV.l); (· (repeat (first | exact List.Mem.head _ | with_reducible apply List.mem_append_right | with_reducible apply List.mem_cons_of_mem))); (· rfl); (· rfl); (· rfl); (· rfl); (· rfl); (· rfl); (· (show _ * 8 ≤ _; omega)); (· omega); intro L1 hL1; rw [← hpl] at hL1 ⊢; have hLc := Buf.le hL1))
                 | (((apply CallSt.loc (f := 56)); (· exact Loc.tl Loc.last); (· exact e93 _ _ _ ⟨z.hp (pre ++ [(s : Int)]) _ vs B E, rfl, _, vs, B, E, ⟨hL1, hV.b, ht0⟩, rfl⟩); rintro _ _ ⟨_, rfl, L2, vs2, B2, E2, hV2, rfl⟩; unfold VC.hp; have hLc2 := Buf.le hV2.l))
                 | ((with_reducible refine DrawSt.walk [0, 1, 2, 3, 4, 5, 6, 7] mixed ?_ ?_); · decide +kernel)
                 | ((with_reducible apply CallG.rd (f := 47)); · (apply GSpec.cast (sp := f81 _ _ _ _ _ _); (· (repeat' (first | with_reducible rfl | refine congrArg₂ List.cons ?_ ?_ | exact iN_lit _ | rfl))); all_goals (first | with_reducible assumption | omega | ((repeat (first | with_reducible assumption | with_reducible apply xor_lt | with_reducible apply mul_lt | with_reducible exact pw_lt _ | with_reducible exact inv_lt _ | omega)); done) | ((repeat (first | with_reducible assumption | (with_reducible apply Buf.rd; with_reducible assumption) | (with_reducible apply Rd.appL; with_reducible assumption) | (with_reducible apply Rd.appL; with_reducible apply Buf.rd; with_reducible assumption) | (with_reducible apply Rd.ofH; with_reducible assumption) | (with_reducible apply Rd.ofH1; with_reducible assumption) | with_reducible apply Rd.cons | with_reducible apply Rd.appR)); done) | decide)))
                 | (with_reducible refine NextSt.mk ?_)
                 | (with_reducible refine OnBB.tt ?_)
                 | (with_reducible refine OnBB.ff ?_)
                 | ((with_reducible apply NW.subN); (· first | with_reducible rfl | exact natL _); (· first | with_reducible rfl | exact natL _); (· omega))
                 | ((with_reducible apply Cmp.no); · first | omega | (with_reducible assumption))
                 | ((with_reducible apply LoadSt.box); · (repeat (first | exact List.Mem.head _ | with_reducible apply List.mem_append_right | with_reducible apply List.mem_cons_of_mem)))
                 | ((with_reducible apply LoadSt.boxAgg); · (repeat (first | exact List.Mem.head _ | with_reducible apply List.mem_append_right | with_reducible apply List.mem_cons_of_mem)))
                 | ((with_reducible refine AllocSt.mk ?_); intro _b _hb _hbO)
                 | ((with_reducible apply StoreSt.box); (· (repeat (first | exact Upd.hd | apply Upd.tl | apply Upd.app))); (· rfl); (· rfl); (· rfl))
                 | ((with_reducible apply IdxArrP.n1); (· rfl); (· first | with_reducible rfl | exact natL _); · omega)
                 | ((with_reducible apply IdxSl.own1); (· rfl); (· first | with_reducible rfl | exact natL _); · (first | omega | (simp only [List.length_map, List.length_append, List.length_cons, List.length_nil, List.length_take, List.length_drop, List.length_replicate, List.length_set] at *; omega)))
                 | ((with_reducible apply SlSl.hi); (· first | with_reducible rfl | exact natL _); (· (first | omega | (simp only [List.length_map, List.length_append, List.length_cons, List.length_nil, List.length_take, List.length_drop, List.length_replicate, List.length_set] at *; omega)))))
        have hpm : (pre ++ [(s : Int)]).length - 1 = pre.length := by omega
        rw [hpm]
        refine FinSt.own (R := fun _ O' => VR z pre (lim (z.most + 1) out (visN z.p z.w k (pre ++ [(s : Int)]) (nexts z.p i (s : Nat) left))) O') (O1 := z.hp pre (Buf.back L2 s) vs2 B2 E2) ?_
          ⟨Buf.back L2 s, vs2, B2, E2, ⟨Buf.back_ok (by rw [← hpl]; exact hV2.l), hV2.b, hV2.t⟩, rfl⟩
        unfold VC.hp
        rw [Buf.back_hp, show (Buf.back L2 s).a = L2.a from rfl, show (Buf.back L2 s).cap = L2.cap from rfl]
        (try dsimp only); (try simp only [List.cons_append, List.nil_append]); (repeat (first | with_reducible exact List.Sublist.refl _ | with_reducible exact List.nil_sublist _ | with_reducible apply List.Sublist.cons_cons | with_reducible apply sub_app | apply List.Sublist.cons_cons | apply sub_app | with_reducible apply List.Sublist.cons | with_reducible apply sub_skip))
  · have hany' : l.any (fun y => decide (full (meetS (meetS x (loadsI z.p i (s : Nat))) y))) = false := by simpa using hany
    rw [hany'] at e89
    have hs0 : sub z.p z.w k pre (s : Nat) = [] := hdead fun y hy hf => hany (List.any_eq_true.2 ⟨y, hy, decide_eq_true (by rw [hX]; exact hf)⟩)
    rw [hs0, lim_nil (by omega)]
    refine GSpec.enter (fn := Tryz.f52) Tryz.func52 rfl (by kernel_rfl) ?_
    repeat' (conv => whnf
             first
             | (((with_reducible refine CallG.rd (f := 46) (X := .agg ⟨spV (loadsI z.p i (s : Nat))⟩) ?_ ?_); (· exact e72 _)))
             | (((with_reducible apply IdxSl.rd 3); (· exact hz.vs); (· rfl); (· first | with_reducible rfl | exact natL _); (· omega); (· omega)))
             | ((rw [show ofs z.ac + i * 3 + s = ofs z.ac + (i * 3 + s) from Nat.add_assoc _ _ _]; refine LoadSt.rd hz.vs.any hv1 ?_))
             | ((refine LoadSt.rd (a := some ⟨b1, 0, none⟩) (k := left) hus.any hu1 ?_))
             | (((with_reducible refine CallSt.rd (f := 53) (X := .bool false) ?_ ?_); (· exact e89 _ _ (List.Mem.head _))))
             | ((with_reducible refine DrawSt.walk [0, 1, 2, 3, 4, 5, 6, 7] mixed ?_ ?_); · decide +kernel)
             | ((with_reducible apply CallG.rd (f := 47)); · (apply GSpec.cast (sp := f81 _ _ _ _ _ _); (· (repeat' (first | with_reducible rfl | refine congrArg₂ List.cons ?_ ?_ | exact iN_lit _ | rfl))); all_goals (first | with_reducible assumption | omega | ((repeat (first | with_reducible assumption | with_reducible apply xor_lt | with_reducible apply mul_lt | with_reducible exact pw_lt _ | with_reducible exact inv_lt _ | omega)); done) | ((repeat (first | with_reducible assumption | (with_reducible apply Buf.rd; with_reducible assumption) | (with_reducible apply Rd.appL; with_reducible assumption) | (with_reducible apply Rd.appL; with_reducible apply Buf.rd; with_reducible assumption) | (with_reducible apply Rd.ofH; with_reducible assumption) | (with_reducible apply Rd.ofH1; with_reducible assumption) | with_reducible apply Rd.cons | with_reducible apply Rd.appR)); done) | decide)))
             | (with_reducible refine NextSt.mk ?_)
             | (with_reducible refine OnBB.tt ?_)
             | (with_reducible refine OnBB.ff ?_)
             | ((with_reducible apply LoadSt.box); · (repeat (first | exact List.Mem.head _ | with_reducible apply List.mem_append_right | with_reducible apply List.mem_cons_of_mem)))
             | ((with_reducible apply LoadSt.boxAgg); · (repeat (first | exact List.Mem.head _ | with_reducible apply List.mem_append_right | with_reducible apply List.mem_cons_of_mem)))
             | ((with_reducible refine AllocSt.mk ?_); intro _b _hb _hbO)
             | ((with_reducible apply StoreSt.box); (· (repeat (first | exact Upd.hd | apply Upd.tl | apply Upd.app))); (· rfl); (· rfl); (· rfl))
             | ((with_reducible apply IdxArrP.n1); (· rfl); (· first | with_reducible rfl | exact natL _); · omega)
             | ((with_reducible apply IdxSl.own1); (· rfl); (· first | with_reducible rfl | exact natL _); · (first | omega | (simp only [List.length_map, List.length_append, List.length_cons, List.length_nil, List.length_take, List.length_drop, List.length_replicate, List.length_set] at *; omega))))
    exact FinSt.own (R := fun _ O' => VR z pre out O') (O1 := z.hp pre L vs B E) (List.Sublist.cons _ (List.Sublist.cons _ (List.Sublist.refl _))) ⟨L, vs, B, E, hV, rfl⟩
theorem f88 (z : VC) (tab : List Value) (h : View) (hz : VS z h tab) : ∀ k, P88 z h k
  | 0 => f88_step z tab h hz 0 fun k' e => by cases e
  | k + 1 => f88_step z tab h hz (k + 1) fun k' e => by cases e; exact f88 z tab h hz k
end Go.Proofs.YtaahjlhfmkjefaaGreatDoor
/- The cases that remain, up to a limit. -/
namespace Go.Proofs.YtaahjlhfmkjefaaGreatDoor
open Go Go.Gv
set_option maxRecDepth 100000
set_option maxHeartbeats 16000000
set_option linter.unusedSimpArgs false
set_option linter.unusedVariables false
theorem CallSt.permT {f : FuncId} {args : List Value} {h : View} {O O1 : Hp} {K : Value → View → Hp → Prop} {R : Value → Hp → Prop} (hp : O.Perm O1) (sp : GSpec Tryz.prog f args h O1 fun v _ O' => R v O') (hk : ∀ v O', R v O' → K v h O') : CallSt Tryz.prog f args h O K :=
  CallSt.frame (H := O1) (G := []) (by rw [List.append_nil]; exact hp) sp fun v O' hR => by rw [List.append_nil]; exact hk v O' hR
/-- A list of lists that a call hands on. -/
def LLR (ls : List (List Int)) (v : Value) (H : Hp) : Prop := ∃ a c vs, v = .slice a ls.length c ∧ RdH H a (vs.map gS) ∧ OutT H ls vs ∧ ls.length ≤ c
theorem rem_two (p : Pl) (w : List Sp) {k : Nat} (h : p.log.length = k + 1) : remV p w = sub p w k [] 0 ++ sub p w k [] 1 := by
  rw [remV_compl, h, compl_succ]
  have h2 : sub p w k [] 2 = [] := by
    unfold sub
    rw [if_neg]
    intro hg
    have := (hg.1 0 (by simp)).2.1 rfl
    exact this rfl
  simp [h2]
theorem fn87 : ∃ fn, Tryz.prog.funcs[51]? = some fn ∧ fn.body.isSome = true ∧ (fn.name == "runtime.NumGoroutine") = false := ⟨_, Tryz.func51, by kernel_rfl, by kernel_rfl⟩
theorem fn88 : ∃ fn, Tryz.prog.funcs[52]? = some fn ∧ fn.body.isSome = true ∧ (fn.name == "runtime.NumGoroutine") = false := ⟨_, Tryz.func52, by kernel_rfl, by kernel_rfl⟩
theorem first_meet {p : Pl} {w : List Sp} {s : Nat} (hp : pOk p) (h0 : 0 < p.log.length) : meetS ⟨0, 65536⟩ (loadsI p 0 (s : Nat)) = fwd p w ([] ++ [(s : Int)]) 0 := by
  have hin := loads_in p 0 (s : Nat) (hp.2 0 h0).2.1 hp.1.2.2.1.1 hp.1.2.2.2.1.1
  show _ = loadsI p 0 (s : Nat)
  generalize loadsI p 0 (s : Nat) = x at *
  obtain ⟨a, b⟩ := x
  simp only at hin
  show (⟨max 0 a, min 65536 b⟩ : Sp) = ⟨a, b⟩
  rw [show max 0 a = a by omega, show min 65536 b = b by omega]
theorem GSpec.permT {f : FuncId} {args : List Value} {h : View} {O O1 : Hp} {R : Value → View → Hp → Prop} (hp : O.Perm O1) (sp : GSpec Tryz.prog f args h O1 R) : GSpec Tryz.prog f args h O R :=
  ⟨sp.1, fun w hv => (sp.2 w (hv.wk (Wk.perm hp))).mono (by
    rintro e w' ⟨v, h', O', rfl, st, hR⟩
    exact ⟨v, h', O', rfl, Step.wk (Wk.perm hp) st, hR⟩)⟩
theorem f88_top (z : VC) (tab : List Value) (H : Hp) (h : View) (hp : pOk z.p) (hw : wOk z.p z.w) (hm : z.most ≤ 1000000) (hr : Rd h [] z.a (z.p.log.flatMap shV)) (hr2 : Rd h [] z.a2 (z.w.flatMap spV)) (hvs : Rd h H z.ac tab) (ht : TabT h H z.p z.w 0 tab)
    (k s : Nat) (hk : z.p.log.length = k + 1) (hs : s < 2) (out : List (List Int)) (hout : out.length ≤ z.most + 1) (O : Hp) (hO : VR z [] out O) :
    GSpec Tryz.prog 52 (iN 0 :: iN s :: .int .i64 z.p.faults :: .agg ⟨spV ⟨0, 65536⟩⟩ :: z.caps) h (H ++ O) (fun _ _ O'' => ∃ O', O'' = H ++ O' ∧ VR z [] (lim (z.most + 1) out (sub z.p z.w k [] (s : Nat))) O') := by
  have hfa := hp.1.2.2.2.2.2.1
  have hF : (Value.int .i64 z.p.faults) = iN z.p.faults.toNat := by unfold iN; rw [Int.toNat_of_nonneg hfa.1]
  rw [hF]
  refine GSpec.keep (R := fun _ O' => VR z [] (lim (z.most + 1) out (sub z.p z.w k [] (s : Nat))) O') (fun hn ha => ?_) fn88
  refine f88 z tab (Gv.pub h H) ⟨hp, hw, hm, hr.more (fun b o e => pub_mono b o e) fun _ _ m => m, hr2.more (fun b o e => pub_mono b o e) fun _ _ m => m, hvs.pub hn ha, ht.pub hn ha⟩ k 0 [] s z.p.faults.toNat ⟨0, 65536⟩ out (by omega) rfl (begun_nil _ _) (by omega) ?_ ?_ (first_meet hp (by omega)) hout O hO
  · refine ⟨⟨?_, ?_⟩, fun _ => ?_, fun e => by omega⟩
    · show (0 : Int) ≤ (s : Nat); omega
    · show ((s : Nat) : Int) ≤ 2; omega
    · show ¬ ((s : Nat) : Int) = 2; omega
  · have : cnt2 ([] ++ [(s : Int)]) = 0 := by
      unfold cnt2
      have : ¬ ((s : Nat) : Int) = 2 := by omega
      simp [this]
    rw [this]; omega
theorem f59 (p : Pl) (w : List Sp) (a a2 : Option Addr) (c c2 most : Nat) (hp : pOk p) (hw : wOk p w) (hm : most ≤ 1000000) (h : View) (hr : Rd h [] a (p.log.flatMap shV)) (hr2 : Rd h [] a2 (w.flatMap spV)) :
    GSpec Tryz.prog 33 [.agg ⟨plV p a c ++ [.slice a2 w.length c2]⟩, iN most] h [] (New [] (LLR ((remV p w).take (most + 1)))) := by
  have hl := hp.1.2.2.2.2.2.2
  have hfa := hp.1.2.2.2.2.2.1
  show GSpec Tryz.prog 33 [.agg ⟨[.int .i64 p.no, .int .i64 p.cell, .int .i64 p.noise, .int .i64 p.slab, .int .i64 p.jump, .int .i64 p.faults, .slice a p.log.length c, .slice a2 w.length c2]⟩, _] h [] _
  by_cases h0 : p.log.length = 0
  · rw [show (remV p w).take (most + 1) = [[]] by unfold remV; rw [h0]; show List.take (most + 1) [[]] = [[]]; rw [List.take_succ_cons, List.take_nil]]
    refine GSpec.enter (fn := Tryz.f33) Tryz.func33 rfl (by kernel_rfl) ?_
    repeat' (conv => whnf
             first
             | (with_reducible refine NextSt.mk ?_)
             | (with_reducible refine OnBB.tt ?_)
             | ((with_reducible apply Cmp.yes); · first | omega | (with_reducible assumption) | (with_reducible rfl))
             | ((with_reducible apply LoadSt.box); · (repeat (first | exact List.Mem.head _ | with_reducible apply List.mem_append_right | with_reducible apply List.mem_cons_of_mem)))
             | ((with_reducible refine AllocSt.mk ?_); intro _b _hb _hbO)
             | ((with_reducible apply StoreSt.box); (· (repeat (first | exact Upd.hd | apply Upd.tl | apply Upd.app))); (· rfl); (· rfl); (· rfl)))
    conv => whnf
    rename_i b2 _ _
    refine FinSt.new (H := [(_b, _), (b2, .cells ⟨[]⟩ 3 (0, 0))]) (by (try dsimp only); (try simp only [List.cons_append, List.nil_append]); (repeat (first | with_reducible exact List.Sublist.refl _ | with_reducible exact List.nil_sublist _ | with_reducible apply List.Sublist.cons_cons | with_reducible apply sub_app | apply List.Sublist.cons_cons | apply sub_app | with_reducible apply List.Sublist.cons | with_reducible apply sub_skip))) ⟨some ⟨_b, 0, none⟩, 1, [(some ⟨b2, 0, none⟩, 0, 0)], rfl, Rd.own0 (List.Mem.head _), ⟨rfl, fun i hi => ?_⟩, Nat.le_refl 1⟩
    have : i = 0 := by simp at hi; exact hi
    subst this
    exact ⟨rfl, Rd.nil, Nat.le_refl 0⟩
  · obtain ⟨k, hk⟩ : ∃ k, p.log.length = k + 1 := ⟨p.log.length - 1, by omega⟩
    have hremV := rem_two p w hk
    have e87 := fun O => GSpec.shown (h := h) (O := O) fn87 fun hn ha => f87 p w a a2 c c2 hp hw (by omega) (Gv.pub h O) (hr.more (fun b o e => pub_mono b o e) fun _ _ m => m) (hr2.more (fun b o e => pub_mono b o e) fun _ _ m => m)
    let zz : Nat → Nat → Nat → Nat → Nat → Nat → Nat → Nat → VC := fun bs bc bo bm bl bn bv bt => ⟨p, w, a, a2, some ⟨bt, 0, none⟩, c, c2, bs, bc, bo, bm, bl, bn, bv, most⟩
    have e88b := fun (bs bc bo bm bl bn bv bt b10 : Nat) (H1 : Hp) (tab : List Value) (htr : RdH H1 (some ⟨bt, 0, none⟩) tab) (htt : TabH H1 p w 0 tab) (O : Hp) (hO : VR (zz bs bc bo bm bl bn bv bt) [] (lim (most + 1) [] (sub p w k [] 0)) O) =>
      f88_top (zz bs bc bo bm bl bn bv bt) tab ((b10, .cells ⟨spV ⟨0, 65536⟩⟩ 50 (0, 0)) :: H1) h hp hw hm hr hr2 (Rd.cons htr.ofH) (htt.of fun b o m => List.mem_cons_of_mem _ m) k 1 hk (by omega) _ lim_le O hO
    have e88a := fun (bs bc bo bm bl bn bv bt b10 : Nat) (H1 : Hp) (tab : List Value) (htr : RdH H1 (some ⟨bt, 0, none⟩) tab) (htt : TabH H1 p w 0 tab) (O0 : Hp) (hO0 : O0.Perm (((b10, .cells ⟨spV ⟨0, 65536⟩⟩ 50 (0, 0)) :: H1) ++ (zz bs bc bo bm bl bn bv bt).hp [] Buf.nil [] Buf.nil [])) =>
      GSpec.mono (R' := fun _ _ O'' => ∃ L vs B E, O'' = (((b10, .cells ⟨spV ⟨0, 65536⟩⟩ 50 (0, 0)) :: H1) ++ (zz bs bc bo bm bl bn bv bt).hp [] L vs B E) ∧ GSpec Tryz.prog 52 (iN 0 :: iN 1 :: .int .i64 p.faults :: .agg ⟨spV ⟨0, 65536⟩⟩ :: (zz bs bc bo bm bl bn bv bt).caps) h (((b10, .cells ⟨spV ⟨0, 65536⟩⟩ 50 (0, 0)) :: H1) ++ (zz bs bc bo bm bl bn bv bt).hp [] L vs B E)
          fun _ _ O2 => ∃ L2 vs2 B2 E2, O2 = ((b10, .cells ⟨spV ⟨0, 65536⟩⟩ 50 (0, 0)) :: H1) ++ (zz bs bc bo bm bl bn bv bt).hp [] L2 vs2 B2 E2 ∧ VI [] L2 ((remV p w).take (most + 1)) vs2 B2 E2)
        (GSpec.permT hO0 (f88_top (zz bs bc bo bm bl bn bv bt) tab ((b10, .cells ⟨spV ⟨0, 65536⟩⟩ 50 (0, 0)) :: H1) h hp hw hm hr hr2 (Rd.cons htr.ofH) (htt.of fun b o m => List.mem_cons_of_mem _ m) k 0 hk (by omega) [] (by simp) _ ⟨Buf.nil, [], Buf.nil, [], ⟨Buf.nil_ok 1, Buf.nil_ok 1, rfl, fun i hi => by cases hi⟩, rfl⟩))
        (by
          rintro v _ O'' ⟨O1, rfl, L, vs, B, E, hV, rfl⟩
          refine ⟨L, vs, B, E, rfl, (e88b bs bc bo bm bl bn bv bt b10 H1 tab htr htt _ ⟨L, vs, B, E, hV, rfl⟩).mono ?_⟩
          rintro v _ O'' ⟨O1, rfl, L2, vs2, B2, E2, hV2, rfl⟩
          refine ⟨L2, vs2, B2, E2, rfl, ?_⟩
          have : lim (most + 1) (lim (most + 1) [] (sub p w k [] 0)) (sub p w k [] 1) = (remV p w).take (most + 1) := by
            rw [lim_lim, ← hremV]; unfold lim; rw [List.nil_append]
          rw [← this]
          exact hV2)
    refine GSpec.enter (fn := Tryz.f33) Tryz.func33 rfl (by kernel_rfl) ?_
    repeat' (conv => whnf
             first
             | (((with_reducible refine CallSt.new (f := 51) (R := (ChR p w)) ?_ ?_); (· exact e87 _); rintro _ H1 ⟨bt, tab, rfl, htr, htt⟩))
             | (with_reducible refine NextSt.mk ?_)
             | (with_reducible refine OnBB.ff ?_)
             | ((with_reducible apply Cmp.no); · first | omega | (with_reducible assumption))
             | ((with_reducible apply LoadSt.box); · (repeat (first | exact List.Mem.head _ | with_reducible apply List.mem_append_right | with_reducible apply List.mem_cons_of_mem)))
             | ((with_reducible apply LoadSt.boxAgg); · (repeat (first | exact List.Mem.head _ | with_reducible apply List.mem_append_right | with_reducible apply List.mem_cons_of_mem)))
             | ((with_reducible refine AllocSt.mk ?_); intro _b _hb _hbO)
             | ((with_reducible apply StoreSt.box); (· (repeat (first | exact Upd.hd | apply Upd.tl | apply Upd.app))); (· rfl); (· rfl); (· rfl)))
    (apply CallSt.turn (f := 52)); (· exact e88a _ _ _ _ _ _ _ _ _ H1 tab htr htt _ ((List.perm_append_comm_assoc [_, _, _, _] H1 [_, _, _]).cons _)); rintro _ _ ⟨L, vs, B, E, rfl, e2⟩; simp only [VC.hp, zz, VC.caps, VC.story] at e2 ⊢
    clear e88a e88b
    repeat' (conv => whnf
             first
             | (((apply CallSt.turn (f := 52)); (· exact e2); rintro _ _ ⟨L2, vs2, B2, E2, rfl, hV2⟩))
             | (with_reducible refine NextSt.mk ?_)
             | ((with_reducible apply LoadSt.box); · (repeat (first | exact List.Mem.head _ | with_reducible apply List.mem_append_right | with_reducible apply List.mem_cons_of_mem)))
             | ((with_reducible apply LoadSt.boxAgg); · (repeat (first | exact List.Mem.head _ | with_reducible apply List.mem_append_right | with_reducible apply List.mem_cons_of_mem))))
    rw [hV2.t.1]
    refine FinSt.new (H := E2 ++ B2.hp 38 (vs2.map gS)) (by rw [List.append_nil]; (try dsimp only); (try simp only [List.cons_append, List.nil_append]); (repeat (first | with_reducible exact List.Sublist.refl _ | with_reducible exact List.nil_sublist _ | with_reducible apply List.Sublist.cons_cons | with_reducible apply sub_app | apply List.Sublist.cons_cons | apply sub_app | with_reducible apply List.Sublist.cons | with_reducible apply sub_skip))) ⟨B2.a, B2.cap, vs2, rfl, (Buf.rd (h := fun _ => none) hV2.b).appR, hV2.t.more fun b o m => List.mem_append_left _ m, ?_⟩
    rw [← hV2.t.1]
    exact Buf.le hV2.b
end Go.Proofs.YtaahjlhfmkjefaaGreatDoor
/- All cases that remain; asked about an entry. -/
namespace Go.Proofs.YtaahjlhfmkjefaaGreatDoor
open Go Go.Gv
set_option maxRecDepth 100000
set_option maxHeartbeats 16000000
set_option linter.unusedSimpArgs false
set_option linter.unusedVariables false
theorem fn59 : ∃ fn, Tryz.prog.funcs[33]? = some fn ∧ fn.body.isSome = true ∧ (fn.name == "runtime.NumGoroutine") = false := ⟨_, Tryz.func33, by kernel_rfl, by kernel_rfl⟩
def casesE (p : Pl) (w : List Sp) : Int := if tellV p w ≠ 0 then tellV p w else if 64 < (remV p w).length then 2 else 0
def casesL (p : Pl) (w : List Sp) : List (List Int) := if casesE p w = 0 then remV p w else []
theorem casesE_bad {p : Pl} {w : List Sp} (h : tellV p w ≠ 0) : casesE p w = tellV p w := if_pos h
theorem casesE_many {p : Pl} {w : List Sp} (h : tellV p w = 0) (hm : 64 < (remV p w).length) : casesE p w = 2 := (if_neg (fun e => e h)).trans (if_pos hm)
theorem casesE_ok {p : Pl} {w : List Sp} (h : tellV p w = 0) (hm : ¬ 64 < (remV p w).length) : casesE p w = 0 := (if_neg (fun e => e h)).trans (if_neg hm)
theorem casesL_ok {p : Pl} {w : List Sp} (h : casesE p w = 0) : casesL p w = remV p w := if_pos h
theorem casesL_no {p : Pl} {w : List Sp} (h : casesE p w ≠ 0) : casesL p w = [] := if_neg h
theorem LLR.nil : LLR [] (.slice none 0 0) [] := ⟨none, 0, [], rfl, Rd.nil, ⟨rfl, fun i hi => by cases hi⟩, Nat.le_refl 0⟩
def CasesR (p : Pl) (w : List Sp) (v : Value) (H : Hp) : Prop := ∃ x, v = .tuple ⟨[x, .int .i64 (casesE p w)]⟩ ∧ LLR (casesL p w) x H
theorem CasesR.no {p : Pl} {w : List Sp} {e : Int} (h : casesE p w = e) (h0 : e ≠ 0) : CasesR p w (.tuple ⟨[.slice none 0 0, .int .i64 e]⟩) [] := ⟨_, by rw [h], by rw [casesL_no (by rw [h]; exact h0)]; exact LLR.nil⟩
theorem f18 (p : Pl) (w : List Sp) (a a2 : Option Addr) (c c2 : Nat) (hl : p.log.length ≤ 9223372036854775807) (hw : w.length ≤ 9223372036854775807) (h : View) (O : Hp) (hr : Rd h O a (p.log.flatMap shV)) (hr2 : Rd h O a2 (w.flatMap spV)) :
    GSpec Tryz.prog 14 [.agg ⟨plV p a c⟩, .slice a2 w.length c2] h O (New O (CasesR p w)) := by
  have e58 := fun O hr hr2 => f58 p w a a2 c c2 hl hw h O hr hr2
  show GSpec Tryz.prog 14 [.agg ⟨[.int .i64 p.no, .int .i64 p.cell, .int .i64 p.noise, .int .i64 p.slab, .int .i64 p.jump, .int .i64 p.faults, .slice a p.log.length c]⟩, _] h O _
  by_cases ht : tellV p w = 0
  · obtain ⟨hp, hwo⟩ := tell_ok ht
    rw [ht] at e58
    have e59 := fun O (hr : Rd h O a (p.log.flatMap shV)) (hr2 : Rd h O a2 (w.flatMap spV)) => GSpec.shown (h := h) (O := O) fn59 fun hn ha => f59 p w a a2 c c2 64 hp hwo (by omega) (Gv.pub h O) (hr.pub hn ha) (hr2.pub hn ha)
    have htk : ((remV p w).take (64 + 1)).length = min 65 (remV p w).length := List.length_take
    by_cases hm : 64 < (remV p w).length
    · refine GSpec.enter (fn := Tryz.f14) Tryz.func14 rfl (by kernel_rfl) ?_
      repeat' (conv => whnf
               first
               | (((with_reducible refine CallSt.rd (f := 32) (X := .int .i64 0) ?_ ?_); (· exact e58 _ (Rd.cons hr) (Rd.cons hr2))))
               | (((with_reducible refine CallSt.new (f := 33) (R := (LLR ((remV p w).take (64 + 1)))) ?_ ?_); (· exact e59 _ (Rd.cons hr) (Rd.cons hr2)); rintro _ H1 ⟨la, lc, lvs, rfl, lr, lt, ll⟩))
               | (with_reducible refine NextSt.mk ?_)
               | (with_reducible refine OnBB.tt ?_)
               | (with_reducible refine OnBB.ff ?_)
               | ((with_reducible apply Cmp.yes); · first | omega | (with_reducible assumption) | (with_reducible rfl))
               | ((with_reducible apply Cmp.no); · first | omega | (with_reducible assumption))
               | ((with_reducible apply LoadSt.boxAgg); · (repeat (first | exact List.Mem.head _ | with_reducible apply List.mem_append_right | with_reducible apply List.mem_cons_of_mem)))
               | ((with_reducible refine AllocSt.mk ?_); intro _b _hb _hbO))
      conv => whnf
      refine FinSt.new (H := []) (by (try dsimp only); (try simp only [List.cons_append, List.nil_append]); (repeat (first | with_reducible exact List.Sublist.refl _ | with_reducible exact List.nil_sublist _ | with_reducible apply List.Sublist.cons_cons | with_reducible apply sub_app | apply List.Sublist.cons_cons | apply sub_app | with_reducible apply List.Sublist.cons | with_reducible apply sub_skip))) ?_
      exact CasesR.no (casesE_many ht hm) (by omega)
    · have hte : (remV p w).take (64 + 1) = remV p w := List.take_of_length_le (by omega)
      rw [hte] at e59 htk
      refine GSpec.enter (fn := Tryz.f14) Tryz.func14 rfl (by kernel_rfl) ?_
      repeat' (conv => whnf
               first
               | (((with_reducible refine CallSt.rd (f := 32) (X := .int .i64 0) ?_ ?_); (· exact e58 _ (Rd.cons hr) (Rd.cons hr2))))
               | (((with_reducible refine CallSt.new (f := 33) (R := (LLR (remV p w))) ?_ ?_); (· exact e59 _ (Rd.cons hr) (Rd.cons hr2)); rintro _ H1 ⟨la, lc, lvs, rfl, lr, lt, ll⟩))
               | (with_reducible refine NextSt.mk ?_)
               | (with_reducible refine OnBB.ff ?_)
               | ((with_reducible apply Cmp.no); · first | omega | (with_reducible assumption))
               | ((with_reducible apply LoadSt.boxAgg); · (repeat (first | exact List.Mem.head _ | with_reducible apply List.mem_append_right | with_reducible apply List.mem_cons_of_mem)))
               | ((with_reducible refine AllocSt.mk ?_); intro _b _hb _hbO))
      conv => whnf
      refine FinSt.new (H := H1) (by (try dsimp only); (try simp only [List.cons_append, List.nil_append]); (repeat (first | with_reducible exact List.Sublist.refl _ | with_reducible exact List.nil_sublist _ | with_reducible apply List.Sublist.cons_cons | with_reducible apply sub_app | apply List.Sublist.cons_cons | apply sub_app | with_reducible apply List.Sublist.cons | with_reducible apply sub_skip))) ?_
      exact ⟨_, by rw [casesE_ok ht hm], by rw [casesL_ok (casesE_ok ht hm)]; exact ⟨la, lc, lvs, rfl, lr, lt, ll⟩⟩
  · refine GSpec.enter (fn := Tryz.f14) Tryz.func14 rfl (by kernel_rfl) ?_
    repeat' (conv => whnf
             first
             | (((with_reducible refine CallSt.rd (f := 32) (X := .int .i64 (tellV p w)) ?_ ?_); (· exact e58 _ (Rd.cons hr) (Rd.cons hr2))))
             | (with_reducible refine NextSt.mk ?_)
             | (with_reducible refine OnBB.tt ?_)
             | ((with_reducible apply Cmp.yes); · first | omega | (with_reducible assumption) | (with_reducible rfl))
             | ((with_reducible apply LoadSt.boxAgg); · (repeat (first | exact List.Mem.head _ | with_reducible apply List.mem_append_right | with_reducible apply List.mem_cons_of_mem)))
             | ((with_reducible refine AllocSt.mk ?_); intro _b _hb _hbO))
    conv => whnf
    refine FinSt.new (H := []) (by (try dsimp only); (try simp only [List.cons_append, List.nil_append]); (repeat (first | with_reducible exact List.Sublist.refl _ | with_reducible exact List.nil_sublist _ | with_reducible apply List.Sublist.cons_cons | with_reducible apply sub_app | apply List.Sublist.cons_cons | apply sub_app | with_reducible apply List.Sublist.cons | with_reducible apply sub_skip))) ?_
    exact CasesR.no (casesE_bad ht) ht
def entE (p : Pl) (w : List Sp) (k : Int) : Int := if tellV p w ≠ 0 then tellV p w else if k < 0 ∨ (p.log.length : Int) ≤ k then 1 else casesE p w
def entL (p : Pl) (w : List Sp) (k : Int) : List (List Int) := if entE p w k = 0 then remV p w else []
def EntR (p : Pl) (w : List Sp) (k : Int) (v : Value) (H : Hp) : Prop := ∃ x, v = .tuple ⟨[x, .int .i64 (entE p w k)]⟩ ∧ LLR (entL p w k) x H
theorem EntR.no {p : Pl} {w : List Sp} {k e : Int} (h : entE p w k = e) (h0 : e ≠ 0) : EntR p w k (.tuple ⟨[.slice none 0 0, .int .i64 e]⟩) [] := ⟨_, by rw [h], by rw [show entL p w k = [] from if_neg (by rw [h]; exact h0)]; exact LLR.nil⟩
theorem f65 (p : Pl) (w : List Sp) (k : Int) (a a2 : Option Addr) (c c2 : Nat) (hl : p.log.length ≤ 9223372036854775807) (hw : w.length ≤ 9223372036854775807) (h : View) (O : Hp) (hr : Rd h O a (p.log.flatMap shV)) (hr2 : Rd h O a2 (w.flatMap spV)) :
    GSpec Tryz.prog 34 [.agg ⟨plV p a c⟩, .slice a2 w.length c2, .int .i64 k] h O (New O (EntR p w k)) := by
  have e58 := fun O hr hr2 => f58 p w a a2 c c2 hl hw h O hr hr2
  have e18 := fun O hr hr2 => f18 p w a a2 c c2 hl hw h O hr hr2
  show GSpec Tryz.prog 34 [.agg ⟨[.int .i64 p.no, .int .i64 p.cell, .int .i64 p.noise, .int .i64 p.slab, .int .i64 p.jump, .int .i64 p.faults, .slice a p.log.length c]⟩, _, _] h O _
  by_cases ht : tellV p w = 0
  · rw [ht] at e58
    by_cases hk : k < 0 ∨ (p.log.length : Int) ≤ k
    · have hE : entE p w k = 1 := (if_neg (fun e => e ht)).trans (if_pos hk)
      by_cases hk0 : k < 0
      · refine GSpec.enter (fn := Tryz.f34) Tryz.func34 rfl (by kernel_rfl) ?_
        repeat' (conv => whnf
                 first
                 | (((with_reducible refine CallSt.rd (f := 32) (X := .int .i64 0) ?_ ?_); (· exact e58 _ (Rd.cons hr) (Rd.cons hr2))))
                 | (with_reducible refine NextSt.mk ?_)
                 | (with_reducible refine OnBB.tt ?_)
                 | (with_reducible refine OnBB.ff ?_)
                 | ((with_reducible apply Cmp.yes); · first | omega | (with_reducible assumption) | (with_reducible rfl))
                 | ((with_reducible apply Cmp.no); · first | omega | (with_reducible assumption))
                 | ((with_reducible apply LoadSt.boxAgg); · (repeat (first | exact List.Mem.head _ | with_reducible apply List.mem_append_right | with_reducible apply List.mem_cons_of_mem)))
                 | ((with_reducible refine AllocSt.mk ?_); intro _b _hb _hbO))
        conv => whnf
        refine FinSt.new (H := []) (by (try dsimp only); (try simp only [List.cons_append, List.nil_append]); (repeat (first | with_reducible exact List.Sublist.refl _ | with_reducible exact List.nil_sublist _ | with_reducible apply List.Sublist.cons_cons | with_reducible apply sub_app | apply List.Sublist.cons_cons | apply sub_app | with_reducible apply List.Sublist.cons | with_reducible apply sub_skip))) ?_
        exact EntR.no hE (by omega)
      · refine GSpec.enter (fn := Tryz.f34) Tryz.func34 rfl (by kernel_rfl) ?_
        repeat' (conv => whnf
                 first
                 | (((with_reducible refine CallSt.rd (f := 32) (X := .int .i64 0) ?_ ?_); (· exact e58 _ (Rd.cons hr) (Rd.cons hr2))))
                 | (with_reducible refine NextSt.mk ?_)
                 | (with_reducible refine OnBB.tt ?_)
                 | (with_reducible refine OnBB.ff ?_)
                 | ((with_reducible apply Cmp.yes); · first | omega | (with_reducible assumption) | (with_reducible rfl))
                 | ((with_reducible apply Cmp.no); · first | omega | (with_reducible assumption))
                 | ((with_reducible apply LoadSt.box); · (repeat (first | exact List.Mem.head _ | with_reducible apply List.mem_append_right | with_reducible apply List.mem_cons_of_mem)))
                 | ((with_reducible apply LoadSt.boxAgg); · (repeat (first | exact List.Mem.head _ | with_reducible apply List.mem_append_right | with_reducible apply List.mem_cons_of_mem)))
                 | ((with_reducible refine AllocSt.mk ?_); intro _b _hb _hbO))
        conv => whnf
        refine FinSt.new (H := []) (by (try dsimp only); (try simp only [List.cons_append, List.nil_append]); (repeat (first | with_reducible exact List.Sublist.refl _ | with_reducible exact List.nil_sublist _ | with_reducible apply List.Sublist.cons_cons | with_reducible apply sub_app | apply List.Sublist.cons_cons | apply sub_app | with_reducible apply List.Sublist.cons | with_reducible apply sub_skip))) ?_
        exact EntR.no hE (by omega)
    · have hE : entE p w k = casesE p w := (if_neg (fun e => e ht)).trans (if_neg hk)
      have hL : entL p w k = casesL p w := by unfold entL casesL; rw [hE]
      refine GSpec.enter (fn := Tryz.f34) Tryz.func34 rfl (by kernel_rfl) ?_
      repeat' (conv => whnf
               first
               | (((with_reducible refine CallSt.rd (f := 32) (X := .int .i64 0) ?_ ?_); (· exact e58 _ (Rd.cons hr) (Rd.cons hr2))))
               | (((with_reducible refine CallSt.new (f := 14) (R := (CasesR p w)) ?_ ?_); (· exact e18 _ (Rd.cons hr) (Rd.cons hr2)); rintro _ H1 ⟨lx, rfl, hlx⟩))
               | (with_reducible refine NextSt.mk ?_)
               | (with_reducible refine OnBB.ff ?_)
               | ((with_reducible apply Cmp.no); · first | omega | (with_reducible assumption))
               | ((with_reducible apply LoadSt.box); · (repeat (first | exact List.Mem.head _ | with_reducible apply List.mem_append_right | with_reducible apply List.mem_cons_of_mem)))
               | ((with_reducible apply LoadSt.boxAgg); · (repeat (first | exact List.Mem.head _ | with_reducible apply List.mem_append_right | with_reducible apply List.mem_cons_of_mem)))
               | ((with_reducible refine AllocSt.mk ?_); intro _b _hb _hbO))
      conv => whnf
      refine FinSt.new (H := H1) (by (try dsimp only); (try simp only [List.cons_append, List.nil_append]); (repeat (first | with_reducible exact List.Sublist.refl _ | with_reducible exact List.nil_sublist _ | with_reducible apply List.Sublist.cons_cons | with_reducible apply sub_app | apply List.Sublist.cons_cons | apply sub_app | with_reducible apply List.Sublist.cons | with_reducible apply sub_skip))) ?_
      exact ⟨lx, by rw [hE], by rw [hL]; exact hlx⟩
  · refine GSpec.enter (fn := Tryz.f34) Tryz.func34 rfl (by kernel_rfl) ?_
    repeat' (conv => whnf
             first
             | (((with_reducible refine CallSt.rd (f := 32) (X := .int .i64 (tellV p w)) ?_ ?_); (· exact e58 _ (Rd.cons hr) (Rd.cons hr2))))
             | (with_reducible refine NextSt.mk ?_)
             | (with_reducible refine OnBB.tt ?_)
             | ((with_reducible apply Cmp.yes); · first | omega | (with_reducible assumption) | (with_reducible rfl))
             | ((with_reducible apply LoadSt.boxAgg); · (repeat (first | exact List.Mem.head _ | with_reducible apply List.mem_append_right | with_reducible apply List.mem_cons_of_mem)))
             | ((with_reducible refine AllocSt.mk ?_); intro _b _hb _hbO))
    conv => whnf
    refine FinSt.new (H := []) (by (try dsimp only); (try simp only [List.cons_append, List.nil_append]); (repeat (first | with_reducible exact List.Sublist.refl _ | with_reducible exact List.nil_sublist _ | with_reducible apply List.Sublist.cons_cons | with_reducible apply sub_app | apply List.Sublist.cons_cons | apply sub_app | with_reducible apply List.Sublist.cons | with_reducible apply sub_skip))) ?_
    exact EntR.no (if_pos ht) ht
end Go.Proofs.YtaahjlhfmkjefaaGreatDoor
