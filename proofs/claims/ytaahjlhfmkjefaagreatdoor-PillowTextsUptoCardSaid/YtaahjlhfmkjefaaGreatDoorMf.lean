/- Functions of the program: spans, rows, chances. -/
import Derived.Test.YtaahjlhfmkjefaaGreatDoorMe
import Derived.Test.YtaahjlhfmkjefaaGreatDoorGd
import Derived.Test.YtaahjlhfmkjefaaGreatDoorAb
import Derived.Test.YtaahjlhfmkjefaaGreatDoorSh
import Derived.Shelf.SlSortCmp.NoneTotal
set_option linter.unusedVariables false
set_option linter.unusedSimpArgs false
set_option linter.unusedSectionVars false
/- The states that can follow: a function that calls one that it is given. -/
namespace Go.Proofs.YtaahjlhfmkjefaaGreatDoor
open Go Go.Gv
set_option maxRecDepth 100000
set_option maxHeartbeats 8000000
set_option linter.unusedSimpArgs false
set_option linter.unusedVariables false
def nextsTo (p : Pl) (i : Nat) (s : Int) (left t : Nat) : List (Int × Nat) := (([0, 1, 2] : List Int).take t).flatMap (next1 p i s left)
theorem nextsTo_succ (p : Pl) (i : Nat) (s : Int) (left : Nat) {t : Nat} (h : t < 3) : nextsTo p i s left (t + 1) = nextsTo p i s left t ++ next1 p i s left t := by
  have : t = 0 ∨ t = 1 ∨ t = 2 := by omega
  rcases this with rfl | rfl | rfl <;> simp [nextsTo]
theorem nexts_split (p : Pl) (i : Nat) (s : Int) (left : Nat) {t : Nat} (h : t < 3) {x : Int × Nat} (hx : next1 p i s left t = [x]) : ∃ rest, nexts p i s left = nextsTo p i s left t ++ x :: rest := by
  have : t = 0 ∨ t = 1 ∨ t = 2 := by omega
  rcases this with rfl | rfl | rfl
  · exact ⟨next1 p i s left 1 ++ next1 p i s left 2, by simp only [nexts, nextsTo, List.take_zero, List.flatMap_nil, List.flatMap_cons, List.append_nil, List.nil_append]; rw [show next1 p i s left 0 = [x] from hx]; rfl⟩
  · exact ⟨next1 p i s left 2, by simp only [nexts, nextsTo, List.take_succ_cons, List.take_zero, List.flatMap_nil, List.flatMap_cons, List.append_nil]; rw [show next1 p i s left 1 = [x] from hx]; rfl⟩
  · exact ⟨[], by simp only [nexts, nextsTo, List.take_succ_cons, List.take_zero, List.flatMap_nil, List.flatMap_cons, List.append_nil]; rw [show next1 p i s left 2 = [x] from hx, List.append_assoc]⟩
theorem f93 (p : Pl) (w : List Sp) (a a2 : Option Addr) (c c2 i : Nat) (s : Int) (left : Nat) (g : FuncId) (cap : List Value) (Φ : List (Int × Nat) → Hp → Prop) (hp : pOk p) (hi : i + 1 < p.log.length) (hlf : left ≤ 32) (h : View) (hr : Rd h [] a (p.log.flatMap shV))
    (hstep : ∀ done x rest, nexts p i s left = done ++ x :: rest → ∀ H, Φ done H → GSpec Tryz.prog g (.int .i64 x.1 :: iN x.2 :: cap) h H fun _ _ O' => Φ (done ++ [x]) O') (H0 : Hp) (h0 : Φ [] H0) :
    GSpec Tryz.prog 56 [.agg ⟨plV p a c ++ [.slice a2 w.length c2]⟩, iN i, .int .i64 s, iN left, .func (.func g) #[] ⟨cap⟩] h H0 (fun _ _ O' => Φ (nexts p i s left) O') := by
  have e73 := fun O => f73 p a c i hp hi h O hr.any
  show GSpec Tryz.prog 56 [.agg ⟨[.int .i64 p.no, .int .i64 p.cell, .int .i64 p.noise, .int .i64 p.slab, .int .i64 p.jump, .int .i64 p.faults, .slice a p.log.length c, .slice a2 w.length c2]⟩, _, _, _, _] h H0 _
  refine GSpec.enter (fn := Tryz.f56) Tryz.func56 rfl (by kernel_rfl) ?_
  repeat' (conv => whnf
           first
           | (with_reducible refine NextSt.mk ?_)
           | ((with_reducible refine AllocSt.mk ?_); intro _b _hb _hbO))
  obtain ⟨bx, hbx⟩ : ∃ x, x = _b := ⟨_, rfl⟩
  subst hbx
  refine LoopSt.fix [10, 11, 12, 13, 14, 15, 16, 17, 18, 19, 20, 21, 22, 23, 24, 25, 26, 27, 28, 29, 30, 31, 32, 33, 34, 35, 36, 37, 38, 39] (fun (x : Nat × Hp) => [(11, iN x.1)]) (fun x => (bx, .cells ⟨[.int .i64 p.no, .int .i64 p.cell, .int .i64 p.noise, .int .i64 p.slab, .int .i64 p.jump, .int .i64 p.faults, .slice a p.log.length c, .slice a2 w.length c2]⟩ 81 (0, 0)) :: x.2) (fun x => x.1 ≤ 3 ∧ Φ (nextsTo p i s left x.1) x.2) (fun x => 3 - x.1) ((0, H0)) _ (Wk.refl _ _) (rfl) ?_ ?_ ?_
  · repeat' (first | exact True.intro | refine And.intro ?_ ?_ | rfl | exact congrArg (Value.int _) (by omega) | exact congrArg (fun n => Value.slice _ n _) (by (try dsimp only); omega))
  · exact ⟨Nat.zero_le _, h0⟩
  · rintro ⟨t, H⟩ d ⟨ht, hΦ⟩
    simp only at ht hΦ ⊢
    by_cases ht3 : t < 3
    · have hsucc := nextsTo_succ p i s left ht3
      by_cases hs : (t : Int) = s ∨ shiftI p i
      · by_cases h2 : t = 2
        · by_cases hl0 : 0 < left
          · have hn : next1 p i s left t = [((t : Int), left - 1)] := by
              unfold next1
              rw [if_pos hs, if_neg (by omega), if_pos hl0]
            obtain ⟨rest, hrest⟩ := nexts_split p i s left ht3 hn
            rw [hn] at hsucc
            have hst := hstep (nextsTo p i s left t) ((t : Int), left - 1) rest hrest H hΦ
            rw [← hsucc] at hst
            by_cases hts : (t : Int) = s
            · repeat' (conv => whnf
                       first
                       | (((apply CallSt.loc (f := g) (H := H)); (· exact Loc.tl Loc.last); (· exact hst); intro _ H1 hH1))
                       | (with_reducible refine NextSt.mk ?_)
                       | (with_reducible refine OnBB.tt ?_)
                       | (with_reducible refine OnBB.ff ?_)
                       | ((with_reducible apply NW.addN); (· first | with_reducible rfl | exact natL _); (· first | with_reducible rfl | exact natL _); (· omega))
                       | ((with_reducible apply NW.subN); (· first | with_reducible rfl | exact natL _); (· first | with_reducible rfl | exact natL _); (· omega))
                       | ((with_reducible apply Cmp.yes); · first | omega | (with_reducible assumption) | (with_reducible rfl))
                       | ((with_reducible apply Cmp.no); · first | omega | (with_reducible assumption)))
              refine RoundFix.mk ((t + 1, H1)) ?_ ?_ _ rfl (Wk.drop (by (try dsimp only); (try simp only [List.cons_append, List.nil_append]); (repeat (first | with_reducible exact List.Sublist.refl _ | with_reducible exact List.nil_sublist _ | with_reducible apply List.Sublist.cons_cons | with_reducible apply sub_app | apply List.Sublist.cons_cons | apply sub_app | with_reducible apply List.Sublist.cons | with_reducible apply sub_skip)))) ?_
              · show 3 - (t + 1) < 3 - t
                omega
              · repeat' (first | exact True.intro | refine And.intro ?_ ?_ | rfl | exact congrArg (Value.int _) (by omega) | exact congrArg (fun n => Value.slice _ n _) (by (try dsimp only); omega))
              · exact ⟨ht3, hH1⟩
            · have hsh : shiftI p i := hs.resolve_left hts
              rw [decide_eq_true hsh] at e73
              repeat' (conv => whnf
                       first
                       | (((with_reducible refine CallSt.rd (f := 67) (X := .bool true) ?_ ?_); (· exact e73 _)))
                       | (((apply CallSt.loc (f := g) (H := H)); (· exact Loc.tl Loc.last); (· exact hst); intro _ H1 hH1))
                       | (with_reducible refine NextSt.mk ?_)
                       | (with_reducible refine OnBB.tt ?_)
                       | (with_reducible refine OnBB.ff ?_)
                       | ((with_reducible apply NW.addN); (· first | with_reducible rfl | exact natL _); (· first | with_reducible rfl | exact natL _); (· omega))
                       | ((with_reducible apply NW.subN); (· first | with_reducible rfl | exact natL _); (· first | with_reducible rfl | exact natL _); (· omega))
                       | ((with_reducible apply Cmp.yes); · first | omega | (with_reducible assumption) | (with_reducible rfl))
                       | ((with_reducible apply Cmp.no); · first | omega | (with_reducible assumption))
                       | ((with_reducible apply LoadSt.boxAgg); · (repeat (first | exact List.Mem.head _ | with_reducible apply List.mem_append_right | with_reducible apply List.mem_cons_of_mem))))
              refine RoundFix.mk ((t + 1, H1)) ?_ ?_ _ rfl (Wk.drop (by (try dsimp only); (try simp only [List.cons_append, List.nil_append]); (repeat (first | with_reducible exact List.Sublist.refl _ | with_reducible exact List.nil_sublist _ | with_reducible apply List.Sublist.cons_cons | with_reducible apply sub_app | apply List.Sublist.cons_cons | apply sub_app | with_reducible apply List.Sublist.cons | with_reducible apply sub_skip)))) ?_
              · show 3 - (t + 1) < 3 - t
                omega
              · repeat' (first | exact True.intro | refine And.intro ?_ ?_ | rfl | exact congrArg (Value.int _) (by omega) | exact congrArg (fun n => Value.slice _ n _) (by (try dsimp only); omega))
              · exact ⟨ht3, hH1⟩
          · have hn : next1 p i s left t = [] := by
              unfold next1
              rw [if_pos hs, if_neg (by omega), if_neg hl0]
            rw [hn, List.append_nil] at hsucc
            rw [← hsucc] at hΦ
            by_cases hts : (t : Int) = s
            · repeat' (conv => whnf
                       first
                       | (with_reducible refine NextSt.mk ?_)
                       | (with_reducible refine OnBB.tt ?_)
                       | (with_reducible refine OnBB.ff ?_)
                       | ((with_reducible apply NW.addN); (· first | with_reducible rfl | exact natL _); (· first | with_reducible rfl | exact natL _); (· omega))
                       | ((with_reducible apply Cmp.yes); · first | omega | (with_reducible assumption) | (with_reducible rfl))
                       | ((with_reducible apply Cmp.no); · first | omega | (with_reducible assumption)))
              refine RoundFix.mk ((t + 1, H)) ?_ ?_ _ rfl (Wk.drop (by (try dsimp only); (try simp only [List.cons_append, List.nil_append]); (repeat (first | with_reducible exact List.Sublist.refl _ | with_reducible exact List.nil_sublist _ | with_reducible apply List.Sublist.cons_cons | with_reducible apply sub_app | apply List.Sublist.cons_cons | apply sub_app | with_reducible apply List.Sublist.cons | with_reducible apply sub_skip)))) ?_
              · show 3 - (t + 1) < 3 - t
                omega
              · repeat' (first | exact True.intro | refine And.intro ?_ ?_ | rfl | exact congrArg (Value.int _) (by omega) | exact congrArg (fun n => Value.slice _ n _) (by (try dsimp only); omega))
              · exact ⟨ht3, hΦ⟩
            · have hsh : shiftI p i := hs.resolve_left hts
              rw [decide_eq_true hsh] at e73
              repeat' (conv => whnf
                       first
                       | (((with_reducible refine CallSt.rd (f := 67) (X := .bool true) ?_ ?_); (· exact e73 _)))
                       | (with_reducible refine NextSt.mk ?_)
                       | (with_reducible refine OnBB.tt ?_)
                       | (with_reducible refine OnBB.ff ?_)
                       | ((with_reducible apply NW.addN); (· first | with_reducible rfl | exact natL _); (· first | with_reducible rfl | exact natL _); (· omega))
                       | ((with_reducible apply Cmp.yes); · first | omega | (with_reducible assumption) | (with_reducible rfl))
                       | ((with_reducible apply Cmp.no); · first | omega | (with_reducible assumption))
                       | ((with_reducible apply LoadSt.boxAgg); · (repeat (first | exact List.Mem.head _ | with_reducible apply List.mem_append_right | with_reducible apply List.mem_cons_of_mem))))
              refine RoundFix.mk ((t + 1, H)) ?_ ?_ _ rfl (Wk.drop (by (try dsimp only); (try simp only [List.cons_append, List.nil_append]); (repeat (first | with_reducible exact List.Sublist.refl _ | with_reducible exact List.nil_sublist _ | with_reducible apply List.Sublist.cons_cons | with_reducible apply sub_app | apply List.Sublist.cons_cons | apply sub_app | with_reducible apply List.Sublist.cons | with_reducible apply sub_skip)))) ?_
              · show 3 - (t + 1) < 3 - t
                omega
              · repeat' (first | exact True.intro | refine And.intro ?_ ?_ | rfl | exact congrArg (Value.int _) (by omega) | exact congrArg (fun n => Value.slice _ n _) (by (try dsimp only); omega))
              · exact ⟨ht3, hΦ⟩
        · have hn : next1 p i s left t = [((t : Int), left)] := by
            unfold next1
            rw [if_pos hs, if_pos (by omega)]
          obtain ⟨rest, hrest⟩ := nexts_split p i s left ht3 hn
          rw [hn] at hsucc
          have hst := hstep (nextsTo p i s left t) ((t : Int), left) rest hrest H hΦ
          rw [← hsucc] at hst
          by_cases hts : (t : Int) = s
          · repeat' (conv => whnf
                     first
                     | (((apply CallSt.loc (f := g) (H := H)); (· exact Loc.tl Loc.last); (· exact hst); intro _ H1 hH1))
                     | (with_reducible refine NextSt.mk ?_)
                     | (with_reducible refine OnBB.tt ?_)
                     | (with_reducible refine OnBB.ff ?_)
                     | ((with_reducible apply NW.addN); (· first | with_reducible rfl | exact natL _); (· first | with_reducible rfl | exact natL _); (· omega))
                     | ((with_reducible apply Cmp.yes); · first | omega | (with_reducible assumption) | (with_reducible rfl))
                     | ((with_reducible apply Cmp.no); · first | omega | (with_reducible assumption)))
            refine RoundFix.mk ((t + 1, H1)) ?_ ?_ _ rfl (Wk.drop (by (try dsimp only); (try simp only [List.cons_append, List.nil_append]); (repeat (first | with_reducible exact List.Sublist.refl _ | with_reducible exact List.nil_sublist _ | with_reducible apply List.Sublist.cons_cons | with_reducible apply sub_app | apply List.Sublist.cons_cons | apply sub_app | with_reducible apply List.Sublist.cons | with_reducible apply sub_skip)))) ?_
            · show 3 - (t + 1) < 3 - t
              omega
            · repeat' (first | exact True.intro | refine And.intro ?_ ?_ | rfl | exact congrArg (Value.int _) (by omega) | exact congrArg (fun n => Value.slice _ n _) (by (try dsimp only); omega))
            · exact ⟨ht3, hH1⟩
          · have hsh : shiftI p i := hs.resolve_left hts
            rw [decide_eq_true hsh] at e73
            repeat' (conv => whnf
                     first
                     | (((with_reducible refine CallSt.rd (f := 67) (X := .bool true) ?_ ?_); (· exact e73 _)))
                     | (((apply CallSt.loc (f := g) (H := H)); (· exact Loc.tl Loc.last); (· exact hst); intro _ H1 hH1))
                     | (with_reducible refine NextSt.mk ?_)
                     | (with_reducible refine OnBB.tt ?_)
                     | (with_reducible refine OnBB.ff ?_)
                     | ((with_reducible apply NW.addN); (· first | with_reducible rfl | exact natL _); (· first | with_reducible rfl | exact natL _); (· omega))
                     | ((with_reducible apply Cmp.yes); · first | omega | (with_reducible assumption) | (with_reducible rfl))
                     | ((with_reducible apply LoadSt.boxAgg); · (repeat (first | exact List.Mem.head _ | with_reducible apply List.mem_append_right | with_reducible apply List.mem_cons_of_mem))))
            refine RoundFix.mk ((t + 1, H1)) ?_ ?_ _ rfl (Wk.drop (by (try dsimp only); (try simp only [List.cons_append, List.nil_append]); (repeat (first | with_reducible exact List.Sublist.refl _ | with_reducible exact List.nil_sublist _ | with_reducible apply List.Sublist.cons_cons | with_reducible apply sub_app | apply List.Sublist.cons_cons | apply sub_app | with_reducible apply List.Sublist.cons | with_reducible apply sub_skip)))) ?_
            · show 3 - (t + 1) < 3 - t
              omega
            · repeat' (first | exact True.intro | refine And.intro ?_ ?_ | rfl | exact congrArg (Value.int _) (by omega) | exact congrArg (fun n => Value.slice _ n _) (by (try dsimp only); omega))
            · exact ⟨ht3, hH1⟩
      · have hts : ¬ (t : Int) = s := fun e => hs (.inl e)
        have hn : next1 p i s left t = [] := by
          unfold next1
          rw [if_neg hs]
        rw [hn, List.append_nil] at hsucc
        rw [← hsucc] at hΦ
        rw [decide_eq_false (fun e => hs (.inr e))] at e73
        repeat' (conv => whnf
                 first
                 | (((with_reducible refine CallSt.rd (f := 67) (X := .bool false) ?_ ?_); (· exact e73 _)))
                 | (with_reducible refine NextSt.mk ?_)
                 | (with_reducible refine OnBB.tt ?_)
                 | (with_reducible refine OnBB.ff ?_)
                 | ((with_reducible apply NW.addN); (· first | with_reducible rfl | exact natL _); (· first | with_reducible rfl | exact natL _); (· omega))
                 | ((with_reducible apply Cmp.yes); · first | omega | (with_reducible assumption) | (with_reducible rfl))
                 | ((with_reducible apply LoadSt.boxAgg); · (repeat (first | exact List.Mem.head _ | with_reducible apply List.mem_append_right | with_reducible apply List.mem_cons_of_mem))))
        refine RoundFix.mk ((t + 1, H)) ?_ ?_ _ rfl (Wk.drop (by (try dsimp only); (try simp only [List.cons_append, List.nil_append]); (repeat (first | with_reducible exact List.Sublist.refl _ | with_reducible exact List.nil_sublist _ | with_reducible apply List.Sublist.cons_cons | with_reducible apply sub_app | apply List.Sublist.cons_cons | apply sub_app | with_reducible apply List.Sublist.cons | with_reducible apply sub_skip)))) ?_
        · show 3 - (t + 1) < 3 - t
          omega
        · repeat' (first | exact True.intro | refine And.intro ?_ ?_ | rfl | exact congrArg (Value.int _) (by omega) | exact congrArg (fun n => Value.slice _ n _) (by (try dsimp only); omega))
        · exact ⟨ht3, hΦ⟩
    · have : t = 3 := by omega
      subst this
      repeat' (conv => whnf
               first
               | (with_reducible refine NextSt.mk ?_)
               | (with_reducible refine OnBB.ff ?_)
               | ((with_reducible apply Cmp.no); · first | omega | (with_reducible assumption)))
      conv => whnf
      refine FinSt.own (R := (fun _ O' => Φ (nexts p i s left) O')) (O1 := H) (by (try dsimp only); (try simp only [List.cons_append, List.nil_append]); (repeat (first | with_reducible exact List.Sublist.refl _ | with_reducible exact List.nil_sublist _ | with_reducible apply List.Sublist.cons_cons | with_reducible apply sub_app | apply List.Sublist.cons_cons | apply sub_app | with_reducible apply List.Sublist.cons | with_reducible apply sub_skip))) ?_
      exact hΦ
end Go.Proofs.YtaahjlhfmkjefaaGreatDoor
/- Spans put in order by the library's sort, and joined. -/
namespace Go.Proofs.YtaahjlhfmkjefaaGreatDoor
open Go Go.Gv
set_option maxRecDepth 100000
set_option maxHeartbeats 8000000
set_option linter.unusedSimpArgs false
set_option linter.unusedVariables false
/-- Spans whose ends are small. -/
abbrev SpB := { x : Sp // 0 ≤ x.lo ∧ x.lo ≤ 65536 }
instance : Inhabited SpB := ⟨⟨⟨0, 0⟩, by decide⟩⟩
section
open Go.Shelf Go.RowKit Go.Lib Go.Sort
theorem cmp98 (x y : SpB) (W : World) : Calls Tryz.prog 72 #[.agg #[.int .i64 x.1.lo, .int .i64 x.1.hi], .agg #[.int .i64 y.1.lo, .int .i64 y.1.hi]] W fun e w' => e = .returned (.int .i64 (x.1.lo - y.1.lo)) ∧ ∃ q os', w' = grow (W.drewN q) os' := by
  obtain ⟨⟨a, b⟩, ha⟩ := x
  obtain ⟨⟨c, d⟩, hc⟩ := y
  simp only at ha hc ⊢
  have hw : IntKind.i64.wrap (a - c) = a - c := IntWalk.i64_in _ (by omega)
  go_enter Tryz.func72, Tryz.ntmps72
  go_wp2
  go_ret
  exact ⟨rfl, 0, _, by rw [alloc_eq_grow, alloc_eq_grow, grow_grow]; rfl⟩
theorem lt98 (x y : SpB) : ltOf (fun x y : SpB => x.1.lo - y.1.lo) x y = decide (x.1.lo < y.1.lo) := by
  show decide (x.1.lo - y.1.lo < 0) = _
  by_cases h : x.1.lo < y.1.lo
  · rw [decide_eq_true h, decide_eq_true (by omega)]
  · rw [decide_eq_false h, decide_eq_false (by omega)]
theorem swo98 : SWO (ltOf fun x y : SpB => x.1.lo - y.1.lo) where
  irrefl x := by rw [lt98]; simp
  trans x y z h1 h2 := by rw [lt98] at *; simp at *; omega
  ntrans x y z h1 h2 := by rw [lt98] at *; simp at *; omega
theorem fn97 : ∃ fn, Tryz.prog.funcs[71]? = some fn ∧ fn.body.isSome = true ∧ (fn.name == "runtime.NumGoroutine") = false := ⟨_, Tryz.func71, by kernel_rfl, by kernel_rfl⟩
theorem sort97 (xs : List Sp) (hx : inW xs) (b : Buf) (hb : b.ok 2 (xs.flatMap spV) xs.length) (hlen : xs.length ≤ 1099511627776) (h : View) :
    GSpec Tryz.prog 71 [.slice b.a xs.length b.cap, .func (.func 72) #[] #[]] h (b.hp 50 (xs.flatMap spV)) (fun _ _ O' => ∃ ys : List Sp, ys.Perm xs ∧ srt ys ∧ O' = b.hp 50 (ys.flatMap spV)) := by
  by_cases h0 : 0 < xs.length
  · have hbd : ∀ x ∈ xs, 0 ≤ x.lo ∧ x.lo ≤ 65536 := fun x m => by have := hx x m; omega
    obtain ⟨zs, hzs⟩ : ∃ zs : List SpB, zs.map Subtype.val = xs := ⟨xs.pmap (fun x h => ⟨x, h⟩) hbd, by simp [List.map_pmap]⟩
    subst hzs
    have hfl : ∀ l : List SpB, l.flatMap (fun x => spV x.1) = (l.map Subtype.val).flatMap spV := fun l => by rw [List.flatMap_map]
    rw [List.length_map] at h0 hlen hb ⊢
    rw [← hfl] at hb ⊢
    have sp := sort_spec (P := Tryz.prog) (ρ := Tryz.sortSp_ren) Tryz.sortSp 2 Tryz.isAgg50 Tryz.sizeOf50 (fun x : SpB => spV x.1) (fun _ => rfl) (fun x v hv => by simp [spV] at hv; rcases hv with rfl | rfl <;> rfl) (fun x y : SpB => x.1.lo - y.1.lo) swo98 72 #[]
      (enters_of Tryz.func72 (by kernel_rfl) rfl) (fun _ _ _ _ _ _ _ x y => cmp98 x y _) fn97 b 50 zs h0 hb (by omega) h
    refine GSpec.mono sp ?_
    rintro v _ O' ⟨ys, hp, hs, -, rfl⟩
    refine ⟨ys.map Subtype.val, hp.map _, ?_, by rw [hfl]⟩
    unfold srt
    rw [List.pairwise_map]
    refine hs.imp fun {x y} e => ?_
    rw [lt98] at e
    have := of_decide_eq_false e
    omega
  · have : xs = [] := List.eq_nil_of_length_eq_zero (by omega)
    subst this
    refine ⟨fn97, fun w hv => ?_⟩
    refine Calls.mono (AnyF.slices_SortFunc_none (ρ := Tryz.sortSp_ren) Tryz.sortSp b.a b.cap _ w) ?_
    rintro e w' ⟨rfl, rfl⟩
    exact ⟨_, h, _, rfl, Step.refl hv, [], List.Perm.refl _, List.Pairwise.nil, rfl⟩
end
theorem f66 (xs : List Sp) (hx : inW xs) (b : Buf) (hb : b.ok 2 (xs.flatMap spV) xs.length) (hlen : xs.length ≤ 1099511627776) (h : View) :
    GSpec Tryz.prog 58 [.slice b.a xs.length b.cap] h (b.hp 50 (xs.flatMap spV)) (fun v _ O' => LsR spV (unitedV xs) v O') := by
  have e97 := sort97 xs hx b hb hlen h
  refine GSpec.enter (fn := Tryz.f58) Tryz.func58 rfl (by kernel_rfl) ?_
  repeat' (conv => whnf
           first
           | (((apply CallSt.turn (f := 71)); (· exact e97); rintro _ _ ⟨ys, hp, hs, rfl⟩))
           | (with_reducible refine NextSt.mk ?_))
  have hyl : ys.length = xs.length := hp.length_eq
  have hyx : inW ys := hx.perm hp
  have hby : b.ok 2 (ys.flatMap spV) ys.length := ⟨flat_length (g := spV) (fun _ => rfl) ys, by rw [hyl]; exact hb.2⟩
  have hu : joinS ys = unitedV xs := united_of hs hp hx.near
  rw [← hyl]
  rw [← hu]
  have hyr : Rd h (b.hp 50 (ys.flatMap spV)) b.a (ys.flatMap spV) := Buf.rd hby
  generalize hbG : b.hp 50 (ys.flatMap spV) = G at hyr ⊢
  have hlen' : ys.length ≤ 1099511627776 := by omega
  refine LoopSt.fix [2, 4, 5, 10, 11, 12, 13, 14, 15, 16, 17, 18, 19, 20, 21, 22, 23, 24, 25, 26, 27, 28, 29, 30, 31, 32, 33, 34, 35, 36, 37, 38, 39, 40, 41, 42, 43, 44, 45, 46, 47, 48] (fun ((i, C) : Nat × Buf) => [(2, .slice C.a (joinS (ys.take i)).length C.cap), (10, iN i)]) (fun (i, C) => C.hp 50 ((joinS (ys.take i)).flatMap spV) ++ G) (fun (i, C) => i ≤ ys.length ∧ C.ok 2 ((joinS (ys.take i)).flatMap spV) (joinS (ys.take i)).length) (fun (i, C) => ys.length - i) ((0, Buf.nil)) _ (Wk.refl _ _) (rfl) ?_ ?_ ?_
  · repeat' (first | exact True.intro | refine And.intro ?_ ?_ | rfl | exact congrArg (Value.int _) (by omega) | exact congrArg (fun n => Value.slice _ n _) (by (try dsimp only); omega))
  · exact ⟨Nat.zero_le _, Buf.nil_ok 2⟩
  · rintro ⟨i, C⟩ d ⟨hi, hC⟩
    dsimp only at hi hC ⊢
    by_cases hin : i < ys.length
    · have hst := joinS_step hin
      have hxb := hyx.get hin
      have hoi := joinS_in (hyx.take i)
      have hoi1 := joinS_in (hyx.take (i + 1))
      generalize ho : joinS (ys.take i) = o at *
      generalize ho1 : joinS (ys.take (i + 1)) = o1 at *
      by_cases hj : 0 < o.length ∧ (ys.getD i default).lo ≤ (lastS o).hi + 1
      · have hlast := hoi.1.get (i := o.length - 1) (by omega)
        have hset : o1 = o.set (o.length - 1) ⟨(lastS o).lo, max (lastS o).hi (ys.getD i default).hi⟩ := by rw [hst]; exact if_pos hj
        have hl1 : o1.length = o.length := by rw [hset, List.length_set]
        obtain ⟨hj0, hj1⟩ := hj
        unfold lastS at hj1 hset
        repeat' (conv => whnf
                 first
                 | ((apply StoreSt.buff (g := spV) (s := 2) (i := o.length - 1) (j := 1) (x := ⟨(o.getD (o.length - 1) default).lo, max (o.getD (o.length - 1) default).hi (ys.getD i default).hi⟩)); (· (repeat (first | with_reducible exact Loc.hd | with_reducible exact Loc.last | with_reducible exact Loc.one | with_reducible apply Loc.tl | with_reducible apply Loc.skip))); (· exact hC); (· exact fun _ => rfl); (· rfl); (· rfl); (· omega); (· decide); (· rfl); (· rfl); rw [← hset])
                 | ((with_reducible refine DrawSt.walk [0, 1, 2, 3, 4, 5, 6, 7, 8, 9, 10, 11, 12, 13] mixed ?_ ?_); · decide +kernel)
                 | ((with_reducible refine DrawSt.walk [0, 1, 2, 3, 4, 5, 6, 7, 8, 9, 10, 11, 12, 13, 14] mixed ?_ ?_); · decide +kernel)
                 | ((with_reducible apply LoadSt.rdg (g := spV) (s := 2)); (· rfl); (· (repeat (first | with_reducible assumption | (with_reducible apply Buf.rd; with_reducible assumption) | (with_reducible apply Rd.appL; with_reducible assumption) | (with_reducible apply Rd.appL; with_reducible apply Buf.rd; with_reducible assumption) | (with_reducible apply Rd.ofH; with_reducible assumption) | (with_reducible apply Rd.ofH1; with_reducible assumption) | with_reducible apply Rd.cons | with_reducible apply Rd.appR))); (· exact fun _ => rfl); (· decide); · (first | omega | (simp only [List.length_map, List.length_append, List.length_cons, List.length_nil, List.length_take, List.length_drop, List.length_replicate, List.length_set] at *; omega)))
                 | ((with_reducible apply LoadSt.rdf (g := spV) (s := 2)); (· (repeat (first | with_reducible assumption | (with_reducible apply Buf.rd; with_reducible assumption) | (with_reducible apply Rd.appL; with_reducible assumption) | (with_reducible apply Rd.appL; with_reducible apply Buf.rd; with_reducible assumption) | (with_reducible apply Rd.ofH; with_reducible assumption) | (with_reducible apply Rd.ofH1; with_reducible assumption) | with_reducible apply Rd.cons | with_reducible apply Rd.appR))); (· exact fun _ => rfl); (· (first | omega | (simp only [List.length_map, List.length_append, List.length_cons, List.length_nil, List.length_take, List.length_drop, List.length_replicate, List.length_set] at *; omega))); (· decide))
                 | ((with_reducible apply IdxSl.bufm (s := 2)); (· with_reducible assumption); (· rfl); (· rfl); (· first | with_reducible rfl | exact natL _); · (first | omega | (simp only [List.length_map, List.length_append, List.length_cons, List.length_nil, List.length_take, List.length_drop, List.length_replicate, List.length_set] at *; omega)))
                 | (with_reducible refine NextSt.mk ?_)
                 | (with_reducible refine OnBB.tt ?_)
                 | ((with_reducible apply NW.addN); (· first | with_reducible rfl | exact natL _); (· first | with_reducible rfl | exact natL _); (· omega))
                 | ((with_reducible apply NW.subN); (· first | with_reducible rfl | exact natL _); (· first | with_reducible rfl | exact natL _); (· omega))
                 | ((with_reducible apply NW.i64); · omega)
                 | ((with_reducible apply Cmp.yes); · first | omega | (with_reducible assumption) | (with_reducible rfl))
                 | ((with_reducible apply LoadSt.box); · (repeat (first | exact List.Mem.head _ | with_reducible apply List.mem_append_right | with_reducible apply List.mem_cons_of_mem)))
                 | ((with_reducible refine AllocSt.mk ?_); intro _b _hb _hbO)
                 | ((with_reducible apply StoreSt.box); (· (repeat (first | exact Upd.hd | apply Upd.tl | apply Upd.app))); (· rfl); (· rfl); (· rfl))
                 | (with_reducible apply MinMax.maxI))
        have hC1 : C.ok 2 (o1.flatMap spV) o1.length := ⟨flat_length (g := spV) (fun _ => rfl) o1, by rw [hl1]; exact hC.2⟩
        subst ho1
        refine RoundFix.mk ((i + 1, C)) ?_ ?_ _ rfl (Wk.drop (by (try dsimp only); (try simp only [List.cons_append, List.nil_append]); (repeat (first | with_reducible exact List.Sublist.refl _ | with_reducible exact List.nil_sublist _ | with_reducible apply List.Sublist.cons_cons | with_reducible apply sub_app | apply List.Sublist.cons_cons | apply sub_app | with_reducible apply List.Sublist.cons | with_reducible apply sub_skip)))) ?_
        · dsimp only; omega
        · repeat' (first | exact True.intro | refine And.intro ?_ ?_ | exact congrArg (fun n => Value.slice C.a n C.cap) hl1.symm | rfl | exact congrArg (Value.int _) (by omega) | exact congrArg (fun n => Value.slice _ n _) (by (try dsimp only); omega))
        · exact ⟨hin, hC1⟩
      · have hset : o1 = o ++ [ys.getD i default] := by rw [hst]; exact if_neg hj
        have hl1 : o1.length = o.length + 1 := by rw [hset, List.length_append]; rfl
        by_cases hj0 : 0 < o.length
        · have hlast := hoi.1.get (i := o.length - 1) (by omega)
          have hj1 : ¬ (ys.getD i default).lo ≤ (lastS o).hi + 1 := fun e => hj ⟨hj0, e⟩
          unfold lastS at hj1
          repeat' (conv => whnf
                   first
                   | (((apply AppSt.litm (g := spV) (x := ys.getD i default) (s := 2) (z := .agg ⟨[.int .i64 0, .int .i64 0]⟩)); (· (repeat (first | with_reducible exact Loc.hd | with_reducible exact Loc.last | with_reducible exact Loc.one | with_reducible apply Loc.tl | with_reducible apply Loc.skip))); (· exact hC); (· (repeat (first | exact List.Mem.head _ | with_reducible apply List.mem_append_right | with_reducible apply List.mem_cons_of_mem))); (· rfl); (· rfl); (· rfl); (· rfl); (· rfl); (· rfl); (· rfl); (· (show _ * 16 ≤ _; omega)); (· omega); intro C1 hC1); rw [← hset] at hC1 ⊢)
                   | ((with_reducible refine DrawSt.walk [0, 1, 2, 3, 4, 5, 6, 7, 8, 9, 10, 11, 12, 13] mixed ?_ ?_); · decide +kernel)
                   | ((with_reducible apply LoadSt.rdg (g := spV) (s := 2)); (· rfl); (· (repeat (first | with_reducible assumption | (with_reducible apply Buf.rd; with_reducible assumption) | (with_reducible apply Rd.appL; with_reducible assumption) | (with_reducible apply Rd.appL; with_reducible apply Buf.rd; with_reducible assumption) | (with_reducible apply Rd.ofH; with_reducible assumption) | (with_reducible apply Rd.ofH1; with_reducible assumption) | with_reducible apply Rd.cons | with_reducible apply Rd.appR))); (· exact fun _ => rfl); (· decide); · (first | omega | (simp only [List.length_map, List.length_append, List.length_cons, List.length_nil, List.length_take, List.length_drop, List.length_replicate, List.length_set] at *; omega)))
                   | ((with_reducible apply LoadSt.rdf (g := spV) (s := 2)); (· (repeat (first | with_reducible assumption | (with_reducible apply Buf.rd; with_reducible assumption) | (with_reducible apply Rd.appL; with_reducible assumption) | (with_reducible apply Rd.appL; with_reducible apply Buf.rd; with_reducible assumption) | (with_reducible apply Rd.ofH; with_reducible assumption) | (with_reducible apply Rd.ofH1; with_reducible assumption) | with_reducible apply Rd.cons | with_reducible apply Rd.appR))); (· exact fun _ => rfl); (· (first | omega | (simp only [List.length_map, List.length_append, List.length_cons, List.length_nil, List.length_take, List.length_drop, List.length_replicate, List.length_set] at *; omega))); (· decide))
                   | ((with_reducible apply IdxSl.bufm (s := 2)); (· with_reducible assumption); (· rfl); (· rfl); (· first | with_reducible rfl | exact natL _); · (first | omega | (simp only [List.length_map, List.length_append, List.length_cons, List.length_nil, List.length_take, List.length_drop, List.length_replicate, List.length_set] at *; omega)))
                   | (with_reducible refine NextSt.mk ?_)
                   | (with_reducible refine OnBB.tt ?_)
                   | (with_reducible refine OnBB.ff ?_)
                   | ((with_reducible apply NW.addN); (· first | with_reducible rfl | exact natL _); (· first | with_reducible rfl | exact natL _); (· omega))
                   | ((with_reducible apply NW.subN); (· first | with_reducible rfl | exact natL _); (· first | with_reducible rfl | exact natL _); (· omega))
                   | ((with_reducible apply NW.i64); · omega)
                   | ((with_reducible apply Cmp.yes); · first | omega | (with_reducible assumption) | (with_reducible rfl))
                   | ((with_reducible apply Cmp.no); · first | omega | (with_reducible assumption))
                   | ((with_reducible apply LoadSt.box); · (repeat (first | exact List.Mem.head _ | with_reducible apply List.mem_append_right | with_reducible apply List.mem_cons_of_mem)))
                   | ((with_reducible apply LoadSt.boxAgg); · (repeat (first | exact List.Mem.head _ | with_reducible apply List.mem_append_right | with_reducible apply List.mem_cons_of_mem)))
                   | ((with_reducible refine AllocSt.mk ?_); intro _b _hb _hbO)
                   | ((with_reducible apply StoreSt.box); (· (repeat (first | exact Upd.hd | apply Upd.tl | apply Upd.app))); (· rfl); (· rfl); (· rfl)))
          rw [← hl1] at hC1
          subst ho1
          refine RoundFix.mk ((i + 1, C1)) ?_ ?_ _ rfl (Wk.drop (by (try dsimp only); (try simp only [List.cons_append, List.nil_append]); (repeat (first | with_reducible exact List.Sublist.refl _ | with_reducible exact List.nil_sublist _ | with_reducible apply List.Sublist.cons_cons | with_reducible apply sub_app | apply List.Sublist.cons_cons | apply sub_app | with_reducible apply List.Sublist.cons | with_reducible apply sub_skip)))) ?_
          · dsimp only; omega
          · repeat' (first | exact True.intro | refine And.intro ?_ ?_ | exact congrArg (fun n => Value.slice C1.a n C1.cap) hl1.symm | rfl | exact congrArg (Value.int _) (by omega) | exact congrArg (fun n => Value.slice _ n _) (by (try dsimp only); omega))
          · exact ⟨hin, hC1⟩
        · have hz : o.length = 0 := by omega
          repeat' (conv => whnf
                   first
                   | (((apply AppSt.litm (g := spV) (x := ys.getD i default) (s := 2) (z := .agg ⟨[.int .i64 0, .int .i64 0]⟩)); (· (repeat (first | with_reducible exact Loc.hd | with_reducible exact Loc.last | with_reducible exact Loc.one | with_reducible apply Loc.tl | with_reducible apply Loc.skip))); (· exact hC); (· (repeat (first | exact List.Mem.head _ | with_reducible apply List.mem_append_right | with_reducible apply List.mem_cons_of_mem))); (· rfl); (· rfl); (· rfl); (· rfl); (· rfl); (· rfl); (· rfl); (· (show _ * 16 ≤ _; omega)); (· omega); intro C1 hC1); rw [← hset] at hC1 ⊢)
                   | ((with_reducible refine DrawSt.walk [0, 1, 2, 3, 4, 5, 6, 7, 8, 9, 10, 11, 12, 13] mixed ?_ ?_); · decide +kernel)
                   | ((with_reducible apply LoadSt.rdg (g := spV) (s := 2)); (· rfl); (· (repeat (first | with_reducible assumption | (with_reducible apply Buf.rd; with_reducible assumption) | (with_reducible apply Rd.appL; with_reducible assumption) | (with_reducible apply Rd.appL; with_reducible apply Buf.rd; with_reducible assumption) | (with_reducible apply Rd.ofH; with_reducible assumption) | (with_reducible apply Rd.ofH1; with_reducible assumption) | with_reducible apply Rd.cons | with_reducible apply Rd.appR))); (· exact fun _ => rfl); (· decide); · (first | omega | (simp only [List.length_map, List.length_append, List.length_cons, List.length_nil, List.length_take, List.length_drop, List.length_replicate, List.length_set] at *; omega)))
                   | ((with_reducible apply IdxSl.bufm (s := 2)); (· with_reducible assumption); (· rfl); (· rfl); (· first | with_reducible rfl | exact natL _); · (first | omega | (simp only [List.length_map, List.length_append, List.length_cons, List.length_nil, List.length_take, List.length_drop, List.length_replicate, List.length_set] at *; omega)))
                   | (with_reducible refine NextSt.mk ?_)
                   | (with_reducible refine OnBB.tt ?_)
                   | (with_reducible refine OnBB.ff ?_)
                   | ((with_reducible apply NW.addN); (· first | with_reducible rfl | exact natL _); (· first | with_reducible rfl | exact natL _); (· omega))
                   | ((with_reducible apply Cmp.yes); · first | omega | (with_reducible assumption) | (with_reducible rfl))
                   | ((with_reducible apply Cmp.no); · first | omega | (with_reducible assumption))
                   | ((with_reducible apply LoadSt.boxAgg); · (repeat (first | exact List.Mem.head _ | with_reducible apply List.mem_append_right | with_reducible apply List.mem_cons_of_mem)))
                   | ((with_reducible refine AllocSt.mk ?_); intro _b _hb _hbO)
                   | ((with_reducible apply StoreSt.box); (· (repeat (first | exact Upd.hd | apply Upd.tl | apply Upd.app))); (· rfl); (· rfl); (· rfl)))
          rw [← hl1] at hC1
          subst ho1
          refine RoundFix.mk ((i + 1, C1)) ?_ ?_ _ rfl (Wk.drop (by (try dsimp only); (try simp only [List.cons_append, List.nil_append]); (repeat (first | with_reducible exact List.Sublist.refl _ | with_reducible exact List.nil_sublist _ | with_reducible apply List.Sublist.cons_cons | with_reducible apply sub_app | apply List.Sublist.cons_cons | apply sub_app | with_reducible apply List.Sublist.cons | with_reducible apply sub_skip)))) ?_
          · dsimp only; omega
          · repeat' (first | exact True.intro | refine And.intro ?_ ?_ | exact congrArg (fun n => Value.slice C1.a n C1.cap) hl1.symm | rfl | exact congrArg (Value.int _) (by omega) | exact congrArg (fun n => Value.slice _ n _) (by (try dsimp only); omega))
          · exact ⟨hin, hC1⟩
    · have : i = ys.length := by omega
      subst this
      rw [List.take_length] at hC ⊢
      repeat' (conv => whnf
               first
               | (with_reducible refine NextSt.mk ?_)
               | (with_reducible refine OnBB.ff ?_)
               | ((with_reducible apply Cmp.no); · first | omega | (with_reducible assumption)))
      conv => whnf
      refine FinSt.own (R := fun v O' => LsR spV (joinS ys) v O') (O1 := C.hp 50 ((joinS ys).flatMap spV)) (List.sublist_append_left _ _) ?_
      exact ⟨C.a, C.cap, rfl, Buf.rd hC, Buf.le hC⟩
end Go.Proofs.YtaahjlhfmkjefaaGreatDoor
/- From which loads a log can go on: what one state that follows adds. -/
namespace Go.Proofs.YtaahjlhfmkjefaaGreatDoor
open Go Go.Gv
set_option maxRecDepth 100000
set_option maxHeartbeats 8000000
set_option linter.unusedSimpArgs false
set_option linter.unusedVariables false
/-- A slice of spans; those of an entry and a state, by the faults that are left; those of all entries from one on. -/
def SpsT (h : View) (O : Hp) (v : Value) (l : List Sp) : Prop := ∃ a c, v = .slice a l.length c ∧ Rd h O a (l.flatMap spV)
def RowT (h : View) (O : Hp) (p : Pl) (w : List Sp) (j s : Nat) (v : Value) : Prop :=
  ∃ b us, v = .slice (some ⟨b, 0, none⟩) (p.faults.toNat + 1) (p.faults.toNat + 1) ∧ us.length = p.faults.toNat + 1 ∧ Rd h O (some ⟨b, 0, none⟩) us ∧ ∀ r ≤ p.faults.toNat, SpsT h O (us.getD r undef) (chF p w (p.log.length - 1 - j) j s r)
def TabT (h : View) (O : Hp) (p : Pl) (w : List Sp) (i : Nat) (vs : List Value) : Prop := vs.length = p.log.length * 3 ∧ ∀ j, i ≤ j → j < p.log.length → ∀ s < 3, RowT h O p w j s (vs.getD (j * 3 + s) undef)
theorem SpsT.more {h h' : View} {O O' : Hp} {v : Value} {l : List Sp} (H : SpsT h O v l) (hm : ∀ b o, h b = some o → h' b = some o) (hs : ∀ b o, (b, o) ∈ O → (b, o) ∈ O') : SpsT h' O' v l := by
  obtain ⟨a, c, h1, h2⟩ := H
  exact ⟨a, c, h1, h2.more hm hs⟩
theorem RowT.more {h h' : View} {O O' : Hp} {p : Pl} {w : List Sp} {j s : Nat} {v : Value} (H : RowT h O p w j s v) (hm : ∀ b o, h b = some o → h' b = some o) (hs : ∀ b o, (b, o) ∈ O → (b, o) ∈ O') : RowT h' O' p w j s v := by
  obtain ⟨b, us, h1, h2, h3, h4⟩ := H
  exact ⟨b, us, h1, h2, h3.more hm hs, fun r hr => (h4 r hr).more hm hs⟩
theorem TabT.more {h h' : View} {O O' : Hp} {p : Pl} {w : List Sp} {i : Nat} {vs : List Value} (H : TabT h O p w i vs) (hm : ∀ b o, h b = some o → h' b = some o) (hs : ∀ b o, (b, o) ∈ O → (b, o) ∈ O') : TabT h' O' p w i vs :=
  ⟨H.1, fun j h1 h2 s h3 => (H.2 j h1 h2 s h3).more hm hs⟩
theorem getD_some {vs : List Value} {k : Nat} (h : k < vs.length) : vs[k]? = some (vs.getD k undef) := by
  rw [List.getD_eq_getElem?_getD, List.getElem?_eq_getElem h]; rfl
theorem thru_step {here y : Sp} {l : List Sp} {q : Nat} (h : q < l.length) : thru here y (l.take (q + 1)) = thru here y (l.take q) ++ if full (meetS here (lessS (l.getD q default) y)) then [meetS here (lessS (l.getD q default) y)] else [] := by
  unfold thru
  rw [List.take_add_one, List.getElem?_eq_getElem h, List.getD_eq_getElem?_getD, List.getElem?_eq_getElem h, List.flatMap_append]
  simp
/-- The blocks of chance and of its closure. -/
def chO (p : Pl) (w : List Sp) (a a2 ac : Option Addr) (c c2 cc i bs bc bi bh bl : Nat) (here : Sp) (L : List Sp) (C : Buf) : Hp :=
  (bl, .cells ⟨[.slice C.a L.length C.cap]⟩ 33 (0, 0)) :: (bh, .cells ⟨spV here⟩ 50 (0, 0)) :: (bi, .cells ⟨[iN i]⟩ 3 (0, 0)) :: (bc, .cells ⟨[.slice ac p.log.length cc]⟩ 98 (0, 0))
    :: (bs, .cells ⟨[.int .i64 p.no, .int .i64 p.cell, .int .i64 p.noise, .int .i64 p.slab, .int .i64 p.jump, .int .i64 p.faults, .slice a p.log.length c, .slice a2 w.length c2]⟩ 81 (0, 0)) :: C.hp 50 (L.flatMap spV)
theorem f108 (p : Pl) (w : List Sp) (a a2 ac : Option Addr) (c c2 cc i t r bs bc bi bh bl : Nat) (vs : List Value) (here : Sp) (L : List Sp) (C : Buf) (hp : pOk p) (hw : wOk p w) (hi : i + 1 < p.log.length) (ht : t < 3) (hrf : r ≤ p.faults.toNat) (hh : 0 ≤ here.lo ∧ here.lo ≤ 65536 ∧ here.hi ≤ 65536 ∧ 0 ≤ here.hi)
    (hL : L.length ≤ 200000) (hC : C.ok 2 (L.flatMap spV) L.length) (h : View) (hr2 : Rd h [] a2 (w.flatMap spV)) (hvs : Rd h [] ac vs) (htab : TabT h [] p w (i + 1) vs) :
    GSpec Tryz.prog 89 [.int .i64 (t : Nat), iN r, .pointer (some ⟨bc, 0, none⟩), .pointer (some ⟨bi, 0, none⟩), .pointer (some ⟨bh, 0, none⟩), .pointer (some ⟨bs, 0, none⟩), .pointer (some ⟨bl, 0, none⟩)] h (chO p w a a2 ac c c2 cc i bs bc bi bh bl here L C)
      (fun _ _ O' => ∃ C' : Buf, C'.ok 2 ((L ++ thru here (w.getD i default) (chF p w (p.log.length - 1 - (i + 1)) (i + 1) (t : Nat) r)).flatMap spV) (L ++ thru here (w.getD i default) (chF p w (p.log.length - 1 - (i + 1)) (i + 1) (t : Nat) r)).length
        ∧ O' = chO p w a a2 ac c c2 cc i bs bc bi bh bl here (L ++ thru here (w.getD i default) (chF p w (p.log.length - 1 - (i + 1)) (i + 1) (t : Nat) r)) C') := by
  have hl := hp.1.2.2.2.2.2.2
  have hwl := hw.1
  have hvl := htab.1
  have hv1 : vs[(i + 1) * 3 + t]? = some (vs.getD ((i + 1) * 3 + t) undef) := getD_some (by omega)
  obtain ⟨b1, us, hb1, hul, hus, hall⟩ := htab.2 (i + 1) (Nat.le_refl _) hi t ht
  rw [hb1] at hv1
  have hu1 : us[r]? = some (us.getD r undef) := getD_some (by omega)
  obtain ⟨la, lc, hl1, hlr⟩ := hall r hrf
  rw [hl1] at hu1
  have hcin := chF_in hp (p.log.length - 1 - (i + 1)) (i + 1) (t : Nat) r (w := w) (by omega)
  generalize chF p w (p.log.length - 1 - (i + 1)) (i + 1) (t : Nat) r = l at *
  have hwa := wOk_at hw i
  unfold chO
  refine GSpec.enter (fn := Tryz.f89) Tryz.func89 rfl (by kernel_rfl) ?_
  repeat' (conv => whnf
           first
           | (((with_reducible apply IdxSl.rd 3); (· exact hvs); (· rfl); (· first | with_reducible rfl | exact natL _); (· omega); (· omega)))
           | ((rw [show ofs ac + (i + 1) * 3 + t = ofs ac + ((i + 1) * 3 + t) from Nat.add_assoc _ _ _]; refine LoadSt.rd hvs.any hv1 ?_))
           | ((refine LoadSt.rd (a := some ⟨b1, 0, none⟩) (k := r) hus.any hu1 ?_))
           | (with_reducible refine NextSt.mk ?_)
           | ((with_reducible apply NW.addN); (· first | with_reducible rfl | exact natL _); (· first | with_reducible rfl | exact natL _); (· omega))
           | ((with_reducible apply LoadSt.box); · (repeat (first | exact List.Mem.head _ | with_reducible apply List.mem_append_right | with_reducible apply List.mem_cons_of_mem)))
           | ((with_reducible apply IdxArrP.n1); (· rfl); (· first | with_reducible rfl | exact natL _); · omega)
           | ((with_reducible apply IdxSl.own1); (· rfl); (· first | with_reducible rfl | exact natL _); · (first | omega | (simp only [List.length_map, List.length_append, List.length_cons, List.length_nil, List.length_take, List.length_drop, List.length_replicate, List.length_set] at *; omega))))
  refine LoopSt.fix [10, 11, 23, 24, 25, 26, 27, 28, 29, 30, 31, 32, 33, 34, 35, 36, 37, 38, 39, 40, 41, 42, 43] (fun ((q, C) : Nat × Buf) => [(23, iN q)]) (fun (q, C) => chO p w a a2 ac c c2 cc i bs bc bi bh bl here (L ++ thru here (w.getD i default) (l.take q)) C) (fun (q, C) => q ≤ l.length ∧ C.ok 2 ((L ++ thru here (w.getD i default) (l.take q)).flatMap spV) (L ++ thru here (w.getD i default) (l.take q)).length) (fun (q, C) => l.length - q) ((0, C)) _ (Wk.refl _ _) ((by simp only [List.take_zero]; rw [show thru here (w.getD i default) [] = [] from rfl, List.append_nil]; rfl)) ?_ ?_ ?_
  · repeat' (first | exact True.intro | refine And.intro ?_ ?_ | rfl | exact congrArg (Value.int _) (by omega) | exact congrArg (fun n => Value.slice _ n _) (by (try dsimp only); omega))
  · refine ⟨Nat.zero_le _, ?_⟩
    rw [List.take_zero, show thru here (w.getD i default) [] = [] from rfl, List.append_nil]
    exact hC
  · rintro ⟨q, C⟩ d ⟨hq, hC⟩
    dsimp only at hq hC ⊢
    by_cases hql : q < l.length
    · have hst := thru_step (here := here) (y := w.getD i default) hql
      have hxb := hcin.1.get hql
      have hlen := thru_len (here := here) (y := w.getD i default) (l := l.take q)
      rw [List.length_take] at hlen
      generalize hM : L ++ thru here (w.getD i default) (l.take q) = M at *
      have hMl : M.length ≤ 240000 := by rw [← hM, List.length_append]; omega
      generalize hM1 : L ++ thru here (w.getD i default) (l.take (q + 1)) = M1
      by_cases hf : full (meetS here (lessS (l.getD q default) (w.getD i default)))
      · rw [if_pos hf] at hst
        have hMM : M1 = M ++ [meetS here (lessS (l.getD q default) (w.getD i default))] := by rw [← hM1, hst, ← List.append_assoc, hM]
        have hm1 : M1.length = M.length + 1 := by rw [hMM, List.length_append]; rfl
        have hf' : ¬ min here.hi ((l.getD q default).hi - (w.getD i default).lo) < max here.lo ((l.getD q default).lo - (w.getD i default).hi) := by
          have := hf
          unfold full meetS lessS at this
          simp only at this
          omega
        unfold chO
        repeat' (conv => whnf
                 first
                 | (((with_reducible refine DrawSt.walkR [0, 1, 2, 3, 4, 5, 6] [7, 8] 9 [10] mixed ?_ ?_); · decide +kernel))
                 | ((with_reducible apply And.intro))
                 | (((apply AppSt.litm (g := spV) (x := meetS here (lessS (l.getD q default) (w.getD i default))) (s := 2) (z := .agg ⟨[.int .i64 0, .int .i64 0]⟩)); (· (repeat (first | with_reducible exact Loc.hd | with_reducible exact Loc.last | with_reducible exact Loc.one | with_reducible apply Loc.tl | with_reducible apply Loc.skip))); (· exact hC); (· (repeat (first | exact List.Mem.head _ | with_reducible apply List.mem_append_right | with_reducible apply List.mem_cons_of_mem))); (· rfl); (· rfl); (· rfl); (· rfl); (· rfl); (· rfl); (· rfl); (· (show _ * 16 ≤ _; omega)); (· omega); intro C1 hC1); rw [← hMM] at hC1 ⊢)
                 | ((with_reducible apply CallG.rd (f := 47)); · (apply GSpec.cast (sp := f81 _ _ _ _ _ _); (· (repeat' (first | with_reducible rfl | refine congrArg₂ List.cons ?_ ?_ | exact iN_lit _ | rfl))); all_goals (first | with_reducible assumption | omega | ((repeat (first | with_reducible assumption | with_reducible apply xor_lt | with_reducible apply mul_lt | with_reducible exact pw_lt _ | with_reducible exact inv_lt _ | omega)); done) | ((repeat (first | with_reducible assumption | (with_reducible apply Buf.rd; with_reducible assumption) | (with_reducible apply Rd.appL; with_reducible assumption) | (with_reducible apply Rd.appL; with_reducible apply Buf.rd; with_reducible assumption) | (with_reducible apply Rd.ofH; with_reducible assumption) | (with_reducible apply Rd.ofH1; with_reducible assumption) | with_reducible apply Rd.cons | with_reducible apply Rd.appR)); done) | decide)))
                 | ((with_reducible apply CallSt.decN (f := 49)); (· (apply GSpec.cast (sp := f91 _ _ _ _); (· (repeat' (first | with_reducible rfl | refine congrArg₂ List.cons ?_ ?_ | exact iN_lit _ | rfl))); all_goals (first | with_reducible assumption | omega | ((repeat (first | with_reducible assumption | with_reducible apply xor_lt | with_reducible apply mul_lt | with_reducible exact pw_lt _ | with_reducible exact inv_lt _ | omega)); done) | ((repeat (first | with_reducible assumption | (with_reducible apply Buf.rd; with_reducible assumption) | (with_reducible apply Rd.appL; with_reducible assumption) | (with_reducible apply Rd.appL; with_reducible apply Buf.rd; with_reducible assumption) | (with_reducible apply Rd.ofH; with_reducible assumption) | (with_reducible apply Rd.ofH1; with_reducible assumption) | with_reducible apply Rd.cons | with_reducible apply Rd.appR)); done) | decide))); · omega)
                 | ((with_reducible apply CallG.rd (f := 50)); · (apply GSpec.cast (sp := f83 _ _ _ _ ?_ ?_ _ _); (· (repeat' (first | with_reducible rfl | refine congrArg₂ List.cons ?_ ?_ | exact iN_lit _ | rfl))); all_goals (first | with_reducible assumption | omega | ((repeat (first | with_reducible assumption | with_reducible apply xor_lt | with_reducible apply mul_lt | with_reducible exact pw_lt _ | with_reducible exact inv_lt _ | omega)); done) | ((repeat (first | with_reducible assumption | (with_reducible apply Buf.rd; with_reducible assumption) | (with_reducible apply Rd.appL; with_reducible assumption) | (with_reducible apply Rd.appL; with_reducible apply Buf.rd; with_reducible assumption) | (with_reducible apply Rd.ofH; with_reducible assumption) | (with_reducible apply Rd.ofH1; with_reducible assumption) | with_reducible apply Rd.cons | with_reducible apply Rd.appR)); done) | decide)))
                 | ((with_reducible apply LoadSt.rdg (g := spV) (s := 2)); (· rfl); (· (repeat (first | with_reducible assumption | (with_reducible apply Rd.any; with_reducible assumption) | (with_reducible apply Buf.rd; with_reducible assumption) | (with_reducible apply Rd.appL; with_reducible assumption) | (with_reducible apply Rd.appL; with_reducible apply Buf.rd; with_reducible assumption) | (with_reducible apply Rd.ofH; with_reducible assumption) | (with_reducible apply Rd.ofH1; with_reducible assumption) | with_reducible apply Rd.cons | with_reducible apply Rd.appR))); (· exact fun _ => rfl); (· decide); · (first | omega | (simp only [List.length_map, List.length_append, List.length_cons, List.length_nil, List.length_take, List.length_drop, List.length_replicate, List.length_set] at *; omega)))
                 | ((with_reducible apply IdxSl.rdg (g := spV) (s := 2)); (· with_reducible assumption); (· exact fun _ => rfl); (· decide); (· rfl); (· first | with_reducible rfl | exact natL _); (· (first | omega | (simp only [List.length_map, List.length_append, List.length_cons, List.length_nil, List.length_take, List.length_drop, List.length_replicate, List.length_set] at *; omega))); · (first | omega | (simp only [List.length_map, List.length_append, List.length_cons, List.length_nil, List.length_take, List.length_drop, List.length_replicate, List.length_set] at *; omega)))
                 | (with_reducible refine NextSt.mk ?_)
                 | (with_reducible refine OnBB.tt ?_)
                 | (with_reducible refine OnBB.ff ?_)
                 | ((with_reducible apply NW.addN); (· first | with_reducible rfl | exact natL _); (· first | with_reducible rfl | exact natL _); (· omega))
                 | ((with_reducible apply Cmp.yes); · first | omega | (with_reducible assumption) | (with_reducible rfl))
                 | ((with_reducible apply LoadSt.box); · (repeat (first | exact List.Mem.head _ | with_reducible apply List.mem_append_right | with_reducible apply List.mem_cons_of_mem)))
                 | ((with_reducible apply LoadSt.boxAgg); · (repeat (first | exact List.Mem.head _ | with_reducible apply List.mem_append_right | with_reducible apply List.mem_cons_of_mem)))
                 | ((with_reducible refine AllocSt.mk ?_); intro _b _hb _hbO)
                 | ((with_reducible apply StoreSt.box); (· (repeat (first | exact Upd.hd | apply Upd.tl | apply Upd.app))); (· rfl); (· rfl); (· rfl)))
        all_goals
          rw [← hm1] at hC1 ⊢
          subst hM1
          refine RoundFix.mk ((q + 1, C1)) ?_ ?_ _ rfl (Wk.drop (by (try dsimp only); (try simp only [List.cons_append, List.nil_append]); (repeat (first | with_reducible exact List.Sublist.refl _ | with_reducible exact List.nil_sublist _ | with_reducible apply List.Sublist.cons_cons | with_reducible apply sub_app | apply List.Sublist.cons_cons | apply sub_app | with_reducible apply List.Sublist.cons | with_reducible apply sub_skip)))) ?_
          · dsimp only; omega
          · repeat' (first | exact True.intro | refine And.intro ?_ ?_ | rfl | exact congrArg (Value.int _) (by omega) | exact congrArg (fun n => Value.slice _ n _) (by (try dsimp only); omega))
          · exact ⟨hql, hC1⟩
      · rw [if_neg hf, List.append_nil] at hst
        have hMM : M1 = M := by rw [← hM1, hst, hM]
        have hf' : min here.hi ((l.getD q default).hi - (w.getD i default).lo) < max here.lo ((l.getD q default).lo - (w.getD i default).hi) := by
          have := hf
          unfold full meetS lessS at this
          simp only at this
          omega
        unfold chO
        repeat' (conv => whnf
                 first
                 | (((with_reducible refine DrawSt.walkR [0, 1, 2, 3, 4, 5, 6] [7, 8] 9 [10] mixed ?_ ?_); · decide +kernel))
                 | ((with_reducible apply And.intro))
                 | ((with_reducible apply CallG.rd (f := 47)); · (apply GSpec.cast (sp := f81 _ _ _ _ _ _); (· (repeat' (first | with_reducible rfl | refine congrArg₂ List.cons ?_ ?_ | exact iN_lit _ | rfl))); all_goals (first | with_reducible assumption | omega | ((repeat (first | with_reducible assumption | with_reducible apply xor_lt | with_reducible apply mul_lt | with_reducible exact pw_lt _ | with_reducible exact inv_lt _ | omega)); done) | ((repeat (first | with_reducible assumption | (with_reducible apply Buf.rd; with_reducible assumption) | (with_reducible apply Rd.appL; with_reducible assumption) | (with_reducible apply Rd.appL; with_reducible apply Buf.rd; with_reducible assumption) | (with_reducible apply Rd.ofH; with_reducible assumption) | (with_reducible apply Rd.ofH1; with_reducible assumption) | with_reducible apply Rd.cons | with_reducible apply Rd.appR)); done) | decide)))
                 | ((with_reducible apply CallSt.decY (f := 49)); (· (apply GSpec.cast (sp := f91 _ _ _ _); (· (repeat' (first | with_reducible rfl | refine congrArg₂ List.cons ?_ ?_ | exact iN_lit _ | rfl))); all_goals (first | with_reducible assumption | omega | ((repeat (first | with_reducible assumption | with_reducible apply xor_lt | with_reducible apply mul_lt | with_reducible exact pw_lt _ | with_reducible exact inv_lt _ | omega)); done) | ((repeat (first | with_reducible assumption | (with_reducible apply Buf.rd; with_reducible assumption) | (with_reducible apply Rd.appL; with_reducible assumption) | (with_reducible apply Rd.appL; with_reducible apply Buf.rd; with_reducible assumption) | (with_reducible apply Rd.ofH; with_reducible assumption) | (with_reducible apply Rd.ofH1; with_reducible assumption) | with_reducible apply Rd.cons | with_reducible apply Rd.appR)); done) | decide))); · omega)
                 | ((with_reducible apply CallG.rd (f := 50)); · (apply GSpec.cast (sp := f83 _ _ _ _ ?_ ?_ _ _); (· (repeat' (first | with_reducible rfl | refine congrArg₂ List.cons ?_ ?_ | exact iN_lit _ | rfl))); all_goals (first | with_reducible assumption | omega | ((repeat (first | with_reducible assumption | with_reducible apply xor_lt | with_reducible apply mul_lt | with_reducible exact pw_lt _ | with_reducible exact inv_lt _ | omega)); done) | ((repeat (first | with_reducible assumption | (with_reducible apply Buf.rd; with_reducible assumption) | (with_reducible apply Rd.appL; with_reducible assumption) | (with_reducible apply Rd.appL; with_reducible apply Buf.rd; with_reducible assumption) | (with_reducible apply Rd.ofH; with_reducible assumption) | (with_reducible apply Rd.ofH1; with_reducible assumption) | with_reducible apply Rd.cons | with_reducible apply Rd.appR)); done) | decide)))
                 | ((with_reducible apply LoadSt.rdg (g := spV) (s := 2)); (· rfl); (· (repeat (first | with_reducible assumption | (with_reducible apply Rd.any; with_reducible assumption) | (with_reducible apply Buf.rd; with_reducible assumption) | (with_reducible apply Rd.appL; with_reducible assumption) | (with_reducible apply Rd.appL; with_reducible apply Buf.rd; with_reducible assumption) | (with_reducible apply Rd.ofH; with_reducible assumption) | (with_reducible apply Rd.ofH1; with_reducible assumption) | with_reducible apply Rd.cons | with_reducible apply Rd.appR))); (· exact fun _ => rfl); (· decide); · (first | omega | (simp only [List.length_map, List.length_append, List.length_cons, List.length_nil, List.length_take, List.length_drop, List.length_replicate, List.length_set] at *; omega)))
                 | ((with_reducible apply IdxSl.rdg (g := spV) (s := 2)); (· with_reducible assumption); (· exact fun _ => rfl); (· decide); (· rfl); (· first | with_reducible rfl | exact natL _); (· (first | omega | (simp only [List.length_map, List.length_append, List.length_cons, List.length_nil, List.length_take, List.length_drop, List.length_replicate, List.length_set] at *; omega))); · (first | omega | (simp only [List.length_map, List.length_append, List.length_cons, List.length_nil, List.length_take, List.length_drop, List.length_replicate, List.length_set] at *; omega)))
                 | (with_reducible refine NextSt.mk ?_)
                 | (with_reducible refine OnBB.tt ?_)
                 | (with_reducible refine OnBB.ff ?_)
                 | ((with_reducible apply NW.addN); (· first | with_reducible rfl | exact natL _); (· first | with_reducible rfl | exact natL _); (· omega))
                 | ((with_reducible apply Cmp.yes); · first | omega | (with_reducible assumption) | (with_reducible rfl))
                 | ((with_reducible apply LoadSt.box); · (repeat (first | exact List.Mem.head _ | with_reducible apply List.mem_append_right | with_reducible apply List.mem_cons_of_mem)))
                 | ((with_reducible apply LoadSt.boxAgg); · (repeat (first | exact List.Mem.head _ | with_reducible apply List.mem_append_right | with_reducible apply List.mem_cons_of_mem)))
                 | ((with_reducible refine AllocSt.mk ?_); intro _b _hb _hbO)
                 | ((with_reducible apply StoreSt.box); (· (repeat (first | exact Upd.hd | apply Upd.tl | apply Upd.app))); (· rfl); (· rfl); (· rfl)))
        all_goals
          rw [← hMM] at hC ⊢
          subst hM1
          refine RoundFix.mk ((q + 1, C)) ?_ ?_ _ rfl (Wk.drop (by (try dsimp only); (try simp only [List.cons_append, List.nil_append]); (repeat (first | with_reducible exact List.Sublist.refl _ | with_reducible exact List.nil_sublist _ | with_reducible apply List.Sublist.cons_cons | with_reducible apply sub_app | apply List.Sublist.cons_cons | apply sub_app | with_reducible apply List.Sublist.cons | with_reducible apply sub_skip)))) ?_
          · dsimp only; omega
          · repeat' (first | exact True.intro | refine And.intro ?_ ?_ | rfl | exact congrArg (Value.int _) (by omega) | exact congrArg (fun n => Value.slice _ n _) (by (try dsimp only); omega))
          · exact ⟨hql, hC⟩
    · have : q = l.length := by omega
      subst this
      rw [List.take_length] at hC ⊢
      unfold chO
      repeat' (conv => whnf
               first
               | (with_reducible refine NextSt.mk ?_)
               | (with_reducible refine OnBB.ff ?_)
               | ((with_reducible apply Cmp.no); · first | omega | (with_reducible assumption)))
      exact FinSt.own (R := fun _ O' => ∃ C' : Buf, C'.ok 2 ((L ++ thru here (w.getD i default) l).flatMap spV) (L ++ thru here (w.getD i default) l).length ∧ O' = chO p w a a2 ac c c2 cc i bs bc bi bh bl here (L ++ thru here (w.getD i default) l) C') (List.Sublist.refl _) ⟨C, hC, rfl⟩
end Go.Proofs.YtaahjlhfmkjefaaGreatDoor
/- The loads from which a log can go on, of one entry, state and number of faults. -/
namespace Go.Proofs.YtaahjlhfmkjefaaGreatDoor
open Go Go.Gv
set_option maxRecDepth 100000
set_option maxHeartbeats 8000000
set_option linter.unusedSimpArgs false
set_option linter.unusedVariables false
theorem nexts_in {p : Pl} {i : Nat} {s : Int} {left : Nat} {x : Int × Nat} (h : x ∈ nexts p i s left) : (x.1 = 0 ∨ x.1 = 1 ∨ x.1 = 2) ∧ x.2 ≤ left := by
  obtain ⟨t, ht, hx⟩ := List.mem_flatMap.1 h
  have h1 := next1_some hx
  refine ⟨by rw [h1.1]; simpa using ht, ?_⟩
  have := h1.2.2.2
  split at this <;> omega
theorem nexts_len (p : Pl) (i : Nat) (s : Int) (left : Nat) : (nexts p i s left).length ≤ 3 := by
  have := flatMap_len (f := next1 p i s left) (n := 1) (l := [0, 1, 2]) fun t _ => next1_len p i s left t
  exact this
/-- What the states that follow add. -/
def addL (p : Pl) (w : List Sp) (k i : Nat) (here : Sp) (ts : List (Int × Nat)) : List Sp := ts.flatMap fun t => thru here (w.getD i default) (chF p w k (i + 1) t.1 t.2)
theorem addL_app (p : Pl) (w : List Sp) (k i : Nat) (here : Sp) (ts : List (Int × Nat)) (x : Int × Nat) : addL p w k i here (ts ++ [x]) = addL p w k i here ts ++ thru here (w.getD i default) (chF p w k (i + 1) x.1 x.2) := by
  unfold addL
  rw [List.flatMap_append]
  simp
theorem f102 (p : Pl) (w : List Sp) (a a2 ac : Option Addr) (c c2 cc i k s left : Nat) (vs : List Value) (hp : pOk p) (hw : wOk p w) (hi : i + k + 1 = p.log.length) (hs : s < 3) (hlf : left ≤ p.faults.toNat) (h : View) (hr : Rd h [] a (p.log.flatMap shV)) (hr2 : Rd h [] a2 (w.flatMap spV)) (hvs : Rd h [] ac vs) (htab : TabT h [] p w (i + 1) vs) :
    GSpec Tryz.prog 69 [.agg ⟨plV p a c ++ [.slice a2 w.length c2]⟩, .slice ac p.log.length cc, iN i, iN s, iN left] h [] (New [] (LsR spV (chF p w k i (s : Nat) left))) := by
  have hl := hp.1.2.2.2.2.2.2
  have hfa := hp.1.2.2.2.2.2.1
  have e72 := fun O => f72 p a c i (s : Nat) hp (by omega) h O hr.any
  have hin := loads_in p i (s : Nat) (hp.2 i (by omega)).2.1 hp.1.2.2.1.1 hp.1.2.2.2.1.1
  show GSpec Tryz.prog 69 [.agg ⟨[.int .i64 p.no, .int .i64 p.cell, .int .i64 p.noise, .int .i64 p.slab, .int .i64 p.jump, .int .i64 p.faults, .slice a p.log.length c, .slice a2 w.length c2]⟩, _, _, _, _] h [] _
  generalize hx : loadsI p i (s : Nat) = here at e72 hin
  cases k with
  | zero =>
    have hc : chF p w 0 i (s : Nat) left = [here] := by rw [← hx]; rfl
    rw [hc]
    refine GSpec.enter (fn := Tryz.f69) Tryz.func69 rfl (by kernel_rfl) ?_
    repeat' (conv => whnf
             first
             | (((with_reducible refine CallSt.rd (f := 46) (X := .agg ⟨spV here⟩) ?_ ?_); (· exact e72 _)))
             | (with_reducible refine NextSt.mk ?_)
             | (with_reducible refine OnBB.tt ?_)
             | ((with_reducible apply NW.subN); (· first | with_reducible rfl | exact natL _); (· first | with_reducible rfl | exact natL _); (· omega))
             | ((with_reducible apply Cmp.yes); · first | omega | (with_reducible assumption) | (with_reducible rfl))
             | ((with_reducible apply LoadSt.box); · (repeat (first | exact List.Mem.head _ | with_reducible apply List.mem_append_right | with_reducible apply List.mem_cons_of_mem)))
             | ((with_reducible apply LoadSt.boxAgg); · (repeat (first | exact List.Mem.head _ | with_reducible apply List.mem_append_right | with_reducible apply List.mem_cons_of_mem)))
             | ((with_reducible refine AllocSt.mk ?_); intro _b _hb _hbO)
             | ((with_reducible apply StoreSt.box); (· (repeat (first | exact Upd.hd | apply Upd.tl | apply Upd.app))); (· rfl); (· rfl); (· rfl)))
    all_goals
      conv => whnf
      refine FinSt.new (H := [(_b, .cells ⟨spV here⟩ 50 (0, 0))]) (by (try dsimp only); (try simp only [List.cons_append, List.nil_append]); (repeat (first | with_reducible exact List.Sublist.refl _ | with_reducible exact List.nil_sublist _ | with_reducible apply List.Sublist.cons_cons | with_reducible apply sub_app | apply List.Sublist.cons_cons | apply sub_app | with_reducible apply List.Sublist.cons | with_reducible apply sub_skip))) ?_
      exact ⟨some ⟨_b, 0, none⟩, 1, rfl, Rd.own0 (List.Mem.head _), Nat.le_refl 1⟩
  | succ k =>
    have hc : chF p w (k + 1) i (s : Nat) left = unitedV (addL p w k i here (nexts p i (s : Nat) left)) := by rw [← hx]; rfl
    rw [hc]
    have hal : ∀ ts : List (Int × Nat), ts.length ≤ 3 → (∀ t ∈ ts, t ∈ nexts p i (s : Nat) left) → (addL p w k i here ts).length ≤ 98307 := fun ts h3 hts => by
      have := flatMap_len (f := fun t : Int × Nat => thru here (w.getD i default) (chF p w k (i + 1) t.1 t.2)) (n := 32769) (l := ts) fun t ht => Nat.le_trans thru_len (chF_in hp k (i + 1) t.1 t.2 (by omega)).2
      unfold addL
      omega
    have hk : p.log.length - 1 - (i + 1) = k := by omega
    have e93 := fun bs bc bi bh bl : Nat => f93 p w a a2 c c2 i (s : Nat) left 89 [.pointer (some ⟨bc, 0, none⟩), .pointer (some ⟨bi, 0, none⟩), .pointer (some ⟨bh, 0, none⟩), .pointer (some ⟨bs, 0, none⟩), .pointer (some ⟨bl, 0, none⟩)]
      (fun done H => ∃ C : Buf, C.ok 2 ((addL p w k i here done).flatMap spV) (addL p w k i here done).length ∧ H = chO p w a a2 ac c c2 cc i bs bc bi bh bl here (addL p w k i here done) C) hp (by omega) (by omega) h hr (fun done x rest hsp H ⟨C, hC, hH⟩ => by
        subst hH
        obtain ⟨x1, r⟩ := x
        have hx3 := nexts_in (p := p) (i := i) (s := (s : Nat)) (left := left) (x := (x1, r)) (by rw [hsp]; simp)
        have hn3 := nexts_len p i (s : Nat) left
        rw [hsp, List.length_append, List.length_cons] at hn3
        obtain ⟨t, ht, rfl⟩ : ∃ t : Nat, t < 3 ∧ x1 = (t : Nat) := by
          rcases hx3.1 with e | e | e
          · exact ⟨0, by omega, e⟩
          · exact ⟨1, by omega, e⟩
          · exact ⟨2, by omega, e⟩
        have hlen := hal done (by omega) fun t m => by rw [hsp]; exact List.mem_append_left _ m
        have e := f108 p w a a2 ac c c2 cc i t r bs bc bi bh bl vs here (addL p w k i here done) C hp hw (by omega) ht (by have := hx3.2; simp only at this; omega) (by omega) (by omega) hC h hr2 hvs htab
        rw [hk, ← addL_app p w k i here done ((t : Nat), r)] at e
        exact e)
    have hlall := hal (nexts p i (s : Nat) left) (nexts_len p i (s : Nat) left) fun t m => m
    have hinU : inW (addL p w k i here (nexts p i (s : Nat) left)) := fun y hy => by
      obtain ⟨t, _, hy⟩ := List.mem_flatMap.1 hy
      exact thru_in ⟨hin.1, hin.2.2⟩ y hy
    have e66 := fun C hC => f66 (addL p w k i here (nexts p i (s : Nat) left)) hinU C hC (by omega) h
    refine GSpec.enter (fn := Tryz.f69) Tryz.func69 rfl (by kernel_rfl) ?_
    repeat' (conv => whnf
             first
             | (((with_reducible refine CallSt.rd (f := 46) (X := .agg ⟨spV here⟩) ?_ ?_); (· exact e72 _)))
             | (((apply CallSt.turn (f := 56)); (· exact e93 _ _ _ _ _ _ ⟨Buf.nil, Buf.nil_ok 2, rfl⟩); rintro _ _ ⟨C, hC, rfl⟩; unfold chO))
             | (((apply CallSt.loc (f := 58) (H := C.hp 50 ((addL p w k i here (nexts p i (s : Nat) left)).flatMap spV))); (· (repeat (first | with_reducible exact Loc.hd | with_reducible exact Loc.last | with_reducible exact Loc.one | with_reducible apply Loc.tl | with_reducible apply Loc.skip))); (· exact e66 C hC); rintro _ H1 ⟨la, lc, rfl, hlr, hle⟩))
             | (with_reducible refine NextSt.mk ?_)
             | (with_reducible refine OnBB.ff ?_)
             | ((with_reducible apply NW.subN); (· first | with_reducible rfl | exact natL _); (· first | with_reducible rfl | exact natL _); (· omega))
             | ((with_reducible apply Cmp.no); · first | omega | (with_reducible assumption))
             | ((with_reducible apply LoadSt.box); · (repeat (first | exact List.Mem.head _ | with_reducible apply List.mem_append_right | with_reducible apply List.mem_cons_of_mem)))
             | ((with_reducible apply LoadSt.boxAgg); · (repeat (first | exact List.Mem.head _ | with_reducible apply List.mem_append_right | with_reducible apply List.mem_cons_of_mem)))
             | ((with_reducible refine AllocSt.mk ?_); intro _b _hb _hbO)
             | ((with_reducible apply StoreSt.box); (· (repeat (first | exact Upd.hd | apply Upd.tl | apply Upd.app))); (· rfl); (· rfl); (· rfl)))
    conv => whnf
    refine FinSt.new (H := H1) (by rw [List.append_nil]; (try dsimp only); (try simp only [List.cons_append, List.nil_append]); (repeat (first | with_reducible exact List.Sublist.refl _ | with_reducible exact List.nil_sublist _ | with_reducible apply List.Sublist.cons_cons | with_reducible apply sub_app | apply List.Sublist.cons_cons | apply sub_app | with_reducible apply List.Sublist.cons | with_reducible apply sub_skip))) ?_
    exact ⟨la, lc, rfl, hlr, hle⟩
end Go.Proofs.YtaahjlhfmkjefaaGreatDoor
/- The table of the loads from which a log can go on. -/
namespace Go.Proofs.YtaahjlhfmkjefaaGreatDoor
open Go Go.Gv
set_option maxRecDepth 100000
set_option maxHeartbeats 8000000
set_option linter.unusedSimpArgs false
set_option linter.unusedVariables false
theorem SpsT.pub {h : View} {O : Hp} {v : Value} {l : List Sp} (hn : (O.map Prod.fst).Nodup) (ha : ∀ b o, (b, o) ∈ O → h b = none) (H : SpsT h O v l) : SpsT (Gv.pub h O) [] v l := by
  obtain ⟨a, c, h1, h2⟩ := H
  exact ⟨a, c, h1, h2.pub hn ha⟩
theorem RowT.pub {h : View} {O : Hp} {p : Pl} {w : List Sp} {j s : Nat} {v : Value} (hn : (O.map Prod.fst).Nodup) (ha : ∀ b o, (b, o) ∈ O → h b = none) (H : RowT h O p w j s v) : RowT (Gv.pub h O) [] p w j s v := by
  obtain ⟨b, us, h1, h2, h3, h4⟩ := H
  exact ⟨b, us, h1, h2, h3.pub hn ha, fun r hr => (h4 r hr).pub hn ha⟩
theorem TabT.pub {h : View} {O : Hp} {p : Pl} {w : List Sp} {i : Nat} {vs : List Value} (hn : (O.map Prod.fst).Nodup) (ha : ∀ b o, (b, o) ∈ O → h b = none) (H : TabT h O p w i vs) : TabT (Gv.pub h O) [] p w i vs :=
  ⟨H.1, fun j h1 h2 s h3 => (H.2 j h1 h2 s h3).pub hn ha⟩
/-- A table that is whole by itself. -/
abbrev TabH (E : Hp) (p : Pl) (w : List Sp) (i : Nat) (vs : List Value) : Prop := TabT (fun _ => none) E p w i vs
theorem TabT.of {h : View} {E O : Hp} {p : Pl} {w : List Sp} {i : Nat} {vs : List Value} (H : TabH E p w i vs) (hs : ∀ b o, (b, o) ∈ E → (b, o) ∈ O) : TabT h O p w i vs := H.more (fun _ _ e => by cases e) hs
theorem TabT.set {h : View} {O : Hp} {p : Pl} {w : List Sp} {i s : Nat} {vs : List Value} {v : Value} (hs : s < 3) (H : TabT h O p w (i + 1) vs) : TabT h O p w (i + 1) (vs.set (i * 3 + s) v) := by
  refine ⟨by rw [List.length_set]; exact H.1, fun j h1 h2 s' h3 => ?_⟩
  rw [show (vs.set (i * 3 + s) v).getD (j * 3 + s') undef = vs.getD (j * 3 + s') undef by
    rw [List.getD_eq_getElem?_getD, List.getElem?_set_ne (by omega), ← List.getD_eq_getElem?_getD]]
  exact H.2 j h1 h2 s' h3
theorem getD_set_self' {vs : List Value} {k : Nat} {v : Value} (h : k < vs.length) : (vs.set k v).getD k undef = v := by
  rw [List.getD_eq_getElem?_getD, List.getElem?_set_self h]; rfl
theorem getD_set_ne' {vs : List Value} {k j : Nat} {v : Value} (h : k ≠ j) : (vs.set k v).getD j undef = vs.getD j undef := by
  rw [List.getD_eq_getElem?_getD, List.getElem?_set_ne h, ← List.getD_eq_getElem?_getD]
theorem fn102 : ∃ fn, Tryz.prog.funcs[69]? = some fn ∧ fn.body.isSome = true ∧ (fn.name == "runtime.NumGoroutine") = false := ⟨_, Tryz.func69, by kernel_rfl, by kernel_rfl⟩
def ChR (p : Pl) (w : List Sp) (v : Value) (H : Hp) : Prop := ∃ b vs, v = .slice (some ⟨b, 0, none⟩) p.log.length p.log.length ∧ RdH H (some ⟨b, 0, none⟩) vs ∧ TabH H p w 0 vs
theorem f87 (p : Pl) (w : List Sp) (a a2 : Option Addr) (c c2 : Nat) (hp : pOk p) (hw : wOk p w) (h0 : 0 < p.log.length) (h : View) (hr : Rd h [] a (p.log.flatMap shV)) (hr2 : Rd h [] a2 (w.flatMap spV)) :
    GSpec Tryz.prog 51 [.agg ⟨plV p a c ++ [.slice a2 w.length c2]⟩] h [] (New [] (ChR p w)) := by
  have hl := hp.1.2.2.2.2.2.2
  have hfa := hp.1.2.2.2.2.2.1
  obtain ⟨F, hF⟩ : ∃ F : Nat, p.faults = (F : Nat) := ⟨p.faults.toNat, by omega⟩
  have hFn : p.faults.toNat = F := by rw [hF]; rfl
  have e102 := fun (O : Hp) (bo i k s r : Nat) (vs : List Value) (hi : i + k + 1 = p.log.length) (hs : s < 3) (hlf : r ≤ F) (hv : Rd h O (some ⟨bo, 0, none⟩) vs) (ht : TabT h O p w (i + 1) vs) =>
    GSpec.shown (h := h) (O := O) fn102 fun hn ha => f102 p w a a2 (some ⟨bo, 0, none⟩) c c2 p.log.length i k s r vs hp hw hi hs (by omega) (Gv.pub h O) (hr.more (fun b o e => pub_mono b o e) fun _ _ m => m) (hr2.more (fun b o e => pub_mono b o e) fun _ _ m => m) (hv.pub hn ha) (ht.pub hn ha)
  show GSpec Tryz.prog 51 [.agg ⟨[.int .i64 p.no, .int .i64 p.cell, .int .i64 p.noise, .int .i64 p.slab, .int .i64 p.jump, .int .i64 p.faults, .slice a p.log.length c, .slice a2 w.length c2]⟩] h [] _
  refine GSpec.enter (fn := Tryz.f51) Tryz.func51 rfl (by kernel_rfl) ?_
  repeat' (conv => whnf
           first
           | (((apply MakeSt.n (n := p.log.length) (z := [.slice none 0 0, .slice none 0 0, .slice none 0 0])); (· rfl); (· rfl); (· (show 72 * _ ≤ _; omega)); (· omega); (· rfl); (· rfl); intro _bo _hbo _hboO))
           | (with_reducible refine NextSt.mk ?_)
           | ((with_reducible apply NW.subN); (· first | with_reducible rfl | exact natL _); (· first | with_reducible rfl | exact natL _); (· omega))
           | ((with_reducible apply LoadSt.box); · (repeat (first | exact List.Mem.head _ | with_reducible apply List.mem_append_right | with_reducible apply List.mem_cons_of_mem)))
           | ((with_reducible refine AllocSt.mk ?_); intro _b _hb _hbO))
  obtain ⟨bs, hbs⟩ : ∃ x, x = _b := ⟨_, rfl⟩
  subst hbs
  refine LoopSt.fix [5, 6, 7, 17, 18, 19, 20, 21, 22, 23, 24, 25, 26, 27, 28, 29, 30, 31, 32, 33, 34, 35, 36, 37, 38, 39, 40, 41, 42, 43, 44, 45, 46, 47, 48, 49, 50, 51, 52, 53, 54, 55, 56, 57, 58] (fun ((m, vs, E) : Nat × List Value × Hp) => [(5, .int .i64 ((m : Int) - 1))]) (fun (m, vs, E) => (_bo, .cells ⟨vs⟩ 103 (0, 0)) :: (bs, .cells ⟨[.int .i64 p.no, .int .i64 p.cell, .int .i64 p.noise, .int .i64 p.slab, .int .i64 p.jump, .int .i64 p.faults, .slice a p.log.length c, .slice a2 w.length c2]⟩ 81 (0, 0)) :: E) (fun (m, vs, E) => m ≤ p.log.length ∧ TabH E p w m vs) (fun (m, vs, E) => m) ((p.log.length, rows p.log.length [.slice none 0 0, .slice none 0 0, .slice none 0 0], [])) _ (Wk.refl _ _) (rfl) ?_ ?_ ?_
  · repeat' (first | exact True.intro | refine And.intro ?_ ?_ | rfl | exact congrArg (Value.int _) (by omega) | exact congrArg (fun n => Value.slice _ n _) (by (try dsimp only); omega))
  · exact ⟨Nat.le_refl _, by rw [rows_length]; rfl, fun j h1 h2 => by omega⟩
  · rintro ⟨m, vs, E⟩ d ⟨hm, htab⟩
    dsimp only at hm htab ⊢
    cases m with
    | zero =>
      repeat' (conv => whnf
               first
               | (with_reducible refine NextSt.mk ?_)
               | (with_reducible refine OnBB.ff ?_)
               | ((with_reducible apply Cmp.no); · first | omega | (with_reducible assumption)))
      conv => whnf
      refine FinSt.new (H := (_bo, .cells ⟨vs⟩ 103 (0, 0)) :: E) (by rw [List.append_nil]; (try dsimp only); (try simp only [List.cons_append, List.nil_append]); (repeat (first | with_reducible exact List.Sublist.refl _ | with_reducible exact List.nil_sublist _ | with_reducible apply List.Sublist.cons_cons | with_reducible apply sub_app | apply List.Sublist.cons_cons | apply sub_app | with_reducible apply List.Sublist.cons | with_reducible apply sub_skip))) ⟨_bo, vs, rfl, Rd.own0 (List.Mem.head _), htab.of fun b o m => List.mem_cons_of_mem _ m⟩
    | succ i =>
      rw [show ((i + 1 : Nat) : Int) - 1 = ((i : Nat) : Int) by omega]
      obtain ⟨k, hk⟩ : ∃ k, i + k + 1 = p.log.length := ⟨p.log.length - 1 - i, by omega⟩
      have hk2 : p.log.length - 1 - i = k := by omega
      have hvl := htab.1
      repeat' (conv => whnf
               first
               | (with_reducible refine NextSt.mk ?_)
               | (with_reducible refine OnBB.tt ?_)
               | ((with_reducible apply Cmp.yes); · first | omega | (with_reducible assumption) | (with_reducible rfl)))
      refine LoopSt.fix [6, 7, 21, 22, 23, 24, 25, 26, 27, 28, 29, 30, 31, 32, 33, 34, 35, 36, 37, 38, 39, 40, 41, 42, 43, 44, 45, 46, 47, 48, 49, 50, 51, 52, 53, 54, 55, 56, 57, 58] (fun ((s, vs, E) : Nat × List Value × Hp) => [(21, iN s)]) (fun (s, vs, E) => (_bo, .cells ⟨vs⟩ 103 (0, 0)) :: (bs, .cells ⟨[.int .i64 p.no, .int .i64 p.cell, .int .i64 p.noise, .int .i64 p.slab, .int .i64 p.jump, .int .i64 p.faults, .slice a p.log.length c, .slice a2 w.length c2]⟩ 81 (0, 0)) :: E) (fun (s, vs, E) => s ≤ 3 ∧ TabH E p w (i + 1) vs ∧ ∀ s' < s, RowT (fun _ => none) E p w i s' (vs.getD (i * 3 + s') undef)) (fun (s, vs, E) => 3 - s) ((0, vs, E)) _ (Wk.refl _ _) (rfl) ?_ ?_ ?_
      · repeat' (first | exact True.intro | refine And.intro ?_ ?_ | rfl | exact congrArg (Value.int _) (by omega) | exact congrArg (fun n => Value.slice _ n _) (by (try dsimp only); omega))
      · exact ⟨Nat.zero_le _, htab, fun s' hs' => by omega⟩
      · clear htab hvl
        rintro ⟨s, vs, E⟩ d1 ⟨hs3, htab, hrow⟩
        dsimp only at hs3 htab hrow ⊢
        have hvl := htab.1
        by_cases hs : s < 3
        · obtain ⟨ib, hib⟩ : ∃ ib, ib = i * 3 + s := ⟨_, rfl⟩
          repeat' (conv => whnf
                   first
                   | (((with_reducible apply IdxSl.own 3); (· rfl); (· first | with_reducible rfl | exact natL _); (· omega)))
                   | (((apply MakeSt.n (n := F + 1) (z := [.slice none 0 0])); (· (show _ = ((F + 1 : Nat) : Int); omega)); (· (show _ = ((F + 1 : Nat) : Int); omega)); (· (show 24 * _ ≤ _; omega)); (· omega); (· rfl); (· rfl); intro _b1 _hb1 _hb1O))
                   | (((apply StoreSt.cell (k := ib) (l := vs) (v := .slice (some ⟨_b1, 0, none⟩) (F + 1) (F + 1))); (· (repeat (first | exact Upd.hd | apply Upd.tl | apply Upd.app))); (· rfl); (· (rw [hib, Nat.zero_add])); (· omega); (· rfl); (· rfl)))
                   | ((with_reducible refine DrawSt.walk [0, 1, 2, 3, 4, 5, 6, 7, 9, 8, 10, 11] mixed ?_ ?_); · decide +kernel)
                   | (with_reducible refine NextSt.mk ?_)
                   | (with_reducible refine OnBB.tt ?_)
                   | ((with_reducible apply NW.i64); · omega)
                   | ((with_reducible apply Cmp.yes); · first | omega | (with_reducible assumption) | (with_reducible rfl))
                   | ((with_reducible apply LoadSt.box); · (repeat (first | exact List.Mem.head _ | with_reducible apply List.mem_append_right | with_reducible apply List.mem_cons_of_mem)))
                   | ((with_reducible apply IdxArrP.n1); (· rfl); (· first | with_reducible rfl | exact natL _); · omega))
          obtain ⟨b1, hb1⟩ : ∃ x, x = _b1 := ⟨_, rfl⟩
          subst hb1
          obtain ⟨vs2, hvs2⟩ : ∃ v, v = vs.set ib (.slice (some ⟨b1, 0, none⟩) (F + 1) (F + 1)) := ⟨_, rfl⟩
          rw [← hvs2]
          have hvl2 : vs2.length = p.log.length * 3 := by rw [hvs2, List.length_set, hvl]
          have hget : vs2.getD ib undef = .slice (some ⟨b1, 0, none⟩) (F + 1) (F + 1) := by rw [hvs2]; exact getD_set_self' (by omega)
          have hother : ∀ q, ib ≠ q → vs2.getD q undef = vs.getD q undef := fun q hq => by rw [hvs2]; exact getD_set_ne' hq
          have htab2 : TabH E p w (i + 1) vs2 := by rw [hvs2, hib]; exact htab.set hs
          refine LoopSt.fix [7, 40, 41, 42, 43, 44, 45, 46, 47, 48, 49, 50, 51, 52, 53, 54, 55, 56, 57] (fun ((r, us, E2) : Nat × List Value × Hp) => [(40, iN r)]) (fun (r, us, E2) => (b1, .cells ⟨us⟩ 33 (0, 0)) :: (_bo, .cells ⟨vs2⟩ 103 (0, 0)) :: (bs, .cells ⟨[.int .i64 p.no, .int .i64 p.cell, .int .i64 p.noise, .int .i64 p.slab, .int .i64 p.jump, .int .i64 p.faults, .slice a p.log.length c, .slice a2 w.length c2]⟩ 81 (0, 0)) :: E2) (fun (r, us, E2) => r ≤ F + 1 ∧ us.length = F + 1 ∧ (∀ b o, (b, o) ∈ E → (b, o) ∈ E2) ∧ ∀ r' < r, SpsT (fun _ => none) E2 (us.getD r' undef) (chF p w k i (s : Nat) r')) (fun (r, us, E2) => F + 1 - r) ((0, List.replicate (F + 1) (.slice none 0 0), E)) _ (Wk.refl _ _) ((by rw [rows_one])) ?_ ?_ ?_
          · repeat' (first | exact True.intro | refine And.intro ?_ ?_ | rfl | exact congrArg (Value.int _) (by omega) | exact congrArg (fun n => Value.slice _ n _) (by (try dsimp only); omega))
          · exact ⟨Nat.zero_le _, List.length_replicate, fun _ _ m => m, fun r' hr' => by omega⟩
          · rintro ⟨r, us, E2⟩ d2 ⟨hrF, hul, hE, hsp⟩
            dsimp only at hrF hul hE hsp ⊢
            by_cases hrn : r < F + 1
            · have htE := htab2.of (h := fun _ => none) hE
              repeat' (conv => whnf
                       first
                       | (((with_reducible apply IdxSl.own 3); (· rfl); (· first | with_reducible rfl | exact natL _); (· omega)))
                       | (((apply LoadSt.cell (k := ib) (l := vs2)); (· (repeat (first | exact List.Mem.head _ | with_reducible apply List.mem_append_right | with_reducible apply List.mem_cons_of_mem))); (· (rw [hib, Nat.zero_add])); (· omega); (· exact hget)))
                       | (((with_reducible refine CallG.new (f := 69) (R := (LsR spV (chF p w k i (s : Nat) r))) ?_ ?_); (· exact e102 _ _bo i k s r vs2 hk hs (by omega) (Rd.own0 (by (repeat (first | exact List.Mem.head _ | with_reducible apply List.mem_append_right | with_reducible apply List.mem_cons_of_mem)))) (htE.of fun b o m => List.mem_cons_of_mem _ (List.mem_cons_of_mem _ (List.mem_cons_of_mem _ m)))); rintro _ H1 ⟨la, lc, rfl, hlr, hle⟩))
                       | (((apply StoreSt.cell (k := r) (l := us) (v := .slice la (chF p w k i (s : Nat) r).length lc)); (· (repeat (first | exact Upd.hd | apply Upd.tl | apply Upd.app))); (· rfl); (· (rw [Nat.zero_add])); (· omega); (· rfl); (· rfl)))
                       | ((with_reducible refine DrawSt.walk [0, 1, 2, 3, 4, 5, 6, 7, 8, 9, 10, 11, 12, 13, 14] mixed ?_ ?_); · decide +kernel)
                       | (with_reducible refine NextSt.mk ?_)
                       | (with_reducible refine OnBB.tt ?_)
                       | ((with_reducible apply NW.addN); (· first | with_reducible rfl | exact natL _); (· first | with_reducible rfl | exact natL _); (· omega))
                       | ((with_reducible apply Cmp.yes); · first | omega | (with_reducible assumption) | (with_reducible rfl))
                       | ((with_reducible apply LoadSt.boxAgg); · (repeat (first | exact List.Mem.head _ | with_reducible apply List.mem_append_right | with_reducible apply List.mem_cons_of_mem)))
                       | ((with_reducible apply IdxArrP.n1); (· rfl); (· first | with_reducible rfl | exact natL _); · omega)
                       | ((with_reducible apply IdxSl.own1); (· rfl); (· first | with_reducible rfl | exact natL _); · (first | omega | (simp only [List.length_map, List.length_append, List.length_cons, List.length_nil, List.length_take, List.length_drop, List.length_replicate, List.length_set] at *; omega))))
              refine RoundFix.perm (r + 1, us.set r (.slice la (chF p w k i (s : Nat) r).length lc), H1 ++ E2) ?_ ?_ ?_ ?_
              · dsimp only; omega
              · repeat' (first | exact True.intro | refine And.intro ?_ ?_ | rfl | exact congrArg (Value.int _) (by omega) | exact congrArg (fun n => Value.slice _ n _) (by (try dsimp only); omega))
              · exact List.perm_append_comm_assoc H1 [_, _, _] E2
              · refine ⟨hrn, by rw [List.length_set]; exact hul, fun b o m => List.mem_append_right _ (hE b o m), fun r' hr' => ?_⟩
                by_cases e : r' = r
                · rw [e, getD_set_self' (by omega)]
                  exact ⟨la, lc, rfl, hlr.app⟩
                · rw [getD_set_ne' (Ne.symm e)]
                  exact (hsp r' (by omega)).more (fun _ _ e => e) fun b o m => List.mem_append_right _ m
            · have : r = F + 1 := by omega
              subst this
              repeat' (conv => whnf
                       first
                       | (with_reducible refine NextSt.mk ?_)
                       | (with_reducible refine OnBB.ff ?_)
                       | ((with_reducible apply NW.addN); (· first | with_reducible rfl | exact natL _); (· first | with_reducible rfl | exact natL _); (· omega))
                       | ((with_reducible apply Cmp.no); · first | omega | (with_reducible assumption)))
              refine RoundFix.perm (s + 1, vs2, (b1, .cells ⟨us⟩ 33 (0, 0)) :: E2) ?_ ?_ ?_ ?_
              · dsimp only; omega
              · repeat' (first | exact True.intro | refine And.intro ?_ ?_ | rfl | exact congrArg (Value.int _) (by omega) | exact congrArg (fun n => Value.slice _ n _) (by (try dsimp only); omega))
              · exact (List.perm_middle (l₁ := [_, _])).symm
              · refine ⟨hs, htab2.of fun b o m => List.mem_cons_of_mem _ (hE b o m), fun s' hs' => ?_⟩
                by_cases e : s' = s
                · rw [e, ← hib, hget]
                  refine ⟨b1, us, by rw [hFn], by rw [hFn]; exact hul, Rd.own0 (List.Mem.head _), fun r hr => ?_⟩
                  rw [hk2]
                  exact (hsp r (by omega)).more (fun _ _ e => e) fun b o m => List.mem_cons_of_mem _ m
                · rw [hother _ (by omega)]
                  exact (hrow s' (by omega)).more (fun _ _ e => e) fun b o m => List.mem_cons_of_mem _ (hE b o m)
        · have : s = 3 := by omega
          subst this
          repeat' (conv => whnf
                   first
                   | (with_reducible refine NextSt.mk ?_)
                   | (with_reducible refine OnBB.ff ?_)
                   | ((with_reducible apply NW.i64); · omega)
                   | ((with_reducible apply Cmp.no); · first | omega | (with_reducible assumption)))
          refine RoundFix.mk ((i, vs, E)) ?_ ?_ _ rfl (Wk.drop (by (try dsimp only); (try simp only [List.cons_append, List.nil_append]); (repeat (first | with_reducible exact List.Sublist.refl _ | with_reducible exact List.nil_sublist _ | with_reducible apply List.Sublist.cons_cons | with_reducible apply sub_app | apply List.Sublist.cons_cons | apply sub_app | with_reducible apply List.Sublist.cons | with_reducible apply sub_skip)))) ?_
          · exact Nat.lt_succ_self _
          · repeat' (first | exact True.intro | refine And.intro ?_ ?_ | rfl | exact congrArg (Value.int _) (by omega) | exact congrArg (fun n => Value.slice _ n _) (by (try dsimp only); omega))
          · refine ⟨by omega, hvl, fun j h1 h2 s h3 => ?_⟩
            by_cases e : j = i
            · rw [e]; exact hrow s h3
            · exact htab.2 j (by omega) h2 s h3
end Go.Proofs.YtaahjlhfmkjefaaGreatDoor
