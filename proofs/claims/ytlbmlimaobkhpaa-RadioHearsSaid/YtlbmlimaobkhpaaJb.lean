/- Messages compared; the reference puts them together. -/
import Derived.Test.YtlbmlimaobkhpaaRe
import Derived.Test.YtlbmlimaobkhpaaGe
import Derived.Test.YtlbmlimaobkhpaaJa
set_option linter.unusedVariables false
set_option linter.unusedSimpArgs false
set_option linter.unusedSectionVars false
/- Messages compared: what they are about; slices.CompactFunc's function. -/
namespace Go.Proofs.Ytlbmlimaobkhpaa
open Go Go.Gv
set_option maxRecDepth 100000
set_option maxHeartbeats 4000000
set_option linter.unusedSimpArgs false
set_option linter.unusedVariables false
def cmpI (a b : Int) : Int := if a < b then -1 else if b < a then 1 else 0
theorem f184 (a : Int) (h : View) (O : Hp) : GSpec Try.prog 184 [.int .i64 a] h O (Ret O (.bool false)) := by
  refine GSpec.enter (fn := Try.f184) Try.func184 rfl (by kernel_rfl) ?_
  repeat' (conv => whnf
           first
           | (with_reducible refine NextSt.mk ?_)
           | ((with_reducible apply Cmp.no); · first | omega | (with_reducible assumption)))
  all_goals (conv => whnf)
  all_goals refine FinSt.ret (by (try dsimp only); (try simp only [List.cons_append, List.nil_append]); (repeat (first | with_reducible exact List.Sublist.refl _ | with_reducible exact List.nil_sublist _ | with_reducible apply List.Sublist.cons_cons | with_reducible apply sub_app | apply List.Sublist.cons_cons | apply sub_app | with_reducible apply List.Sublist.cons | with_reducible apply sub_skip))) ?_
  all_goals first | with_reducible rfl | (exfalso; omega)
theorem f172 (a b : Int) (h : View) (O : Hp) : GSpec Try.prog 172 [.int .i64 a, .int .i64 b] h O (Ret O (.int .i64 (cmpI a b))) := by
  have e1 := fun O => f184 a h O
  have e2 := fun O => f184 b h O
  by_cases h1 : a < b
  · rw [show cmpI a b = -1 from if_pos h1]
    refine GSpec.enter (fn := Try.f172) Try.func172 rfl (by kernel_rfl) ?_
    repeat' (conv => whnf
             first
             | (((with_reducible refine CallSt.rd (f := 184) (X := .bool false) ?_ ?_); (· first | (apply GSpec.cast (sp := e1 _); (· (repeat' (first | with_reducible rfl | refine congrArg₂ List.cons ?_ ?_ | exact iN_lit _ | rfl)))) | (apply GSpec.cast (sp := e2 _); (· (repeat' (first | with_reducible rfl | refine congrArg₂ List.cons ?_ ?_ | exact iN_lit _ | rfl)))))))
             | (with_reducible refine NextSt.mk ?_)
             | (with_reducible refine OnBB.tt ?_)
             | (with_reducible refine OnBB.ff ?_)
             | ((with_reducible apply Cmp.yes); · first | omega | (with_reducible assumption) | (with_reducible rfl)))
    conv => whnf
    refine FinSt.ret (by (try dsimp only); (try simp only [List.cons_append, List.nil_append]); (repeat (first | with_reducible exact List.Sublist.refl _ | with_reducible exact List.nil_sublist _ | with_reducible apply List.Sublist.cons_cons | with_reducible apply sub_app | apply List.Sublist.cons_cons | apply sub_app | with_reducible apply List.Sublist.cons | with_reducible apply sub_skip))) ?_
    rfl
  · by_cases h2 : b < a
    · rw [show cmpI a b = 1 by unfold cmpI; rw [if_neg h1, if_pos h2]]
      refine GSpec.enter (fn := Try.f172) Try.func172 rfl (by kernel_rfl) ?_
      repeat' (conv => whnf
               first
               | (((with_reducible refine CallSt.rd (f := 184) (X := .bool false) ?_ ?_); (· first | (apply GSpec.cast (sp := e1 _); (· (repeat' (first | with_reducible rfl | refine congrArg₂ List.cons ?_ ?_ | exact iN_lit _ | rfl)))) | (apply GSpec.cast (sp := e2 _); (· (repeat' (first | with_reducible rfl | refine congrArg₂ List.cons ?_ ?_ | exact iN_lit _ | rfl)))))))
               | (with_reducible refine NextSt.mk ?_)
               | (with_reducible refine OnBB.tt ?_)
               | (with_reducible refine OnBB.ff ?_)
               | ((with_reducible apply Cmp.yes); · first | omega | (with_reducible assumption) | (with_reducible rfl))
               | ((with_reducible apply Cmp.no); · first | omega | (with_reducible assumption)))
      conv => whnf
      refine FinSt.ret (by (try dsimp only); (try simp only [List.cons_append, List.nil_append]); (repeat (first | with_reducible exact List.Sublist.refl _ | with_reducible exact List.nil_sublist _ | with_reducible apply List.Sublist.cons_cons | with_reducible apply sub_app | apply List.Sublist.cons_cons | apply sub_app | with_reducible apply List.Sublist.cons | with_reducible apply sub_skip))) ?_
      rfl
    · rw [show cmpI a b = 0 by unfold cmpI; rw [if_neg h1, if_neg h2]]
      refine GSpec.enter (fn := Try.f172) Try.func172 rfl (by kernel_rfl) ?_
      repeat' (conv => whnf
               first
               | (((with_reducible refine CallSt.rd (f := 184) (X := .bool false) ?_ ?_); (· first | (apply GSpec.cast (sp := e1 _); (· (repeat' (first | with_reducible rfl | refine congrArg₂ List.cons ?_ ?_ | exact iN_lit _ | rfl)))) | (apply GSpec.cast (sp := e2 _); (· (repeat' (first | with_reducible rfl | refine congrArg₂ List.cons ?_ ?_ | exact iN_lit _ | rfl)))))))
               | (with_reducible refine NextSt.mk ?_)
               | (with_reducible refine OnBB.ff ?_)
               | ((with_reducible apply Cmp.no); · first | omega | (with_reducible assumption)))
      conv => whnf
      refine FinSt.ret (by (try dsimp only); (try simp only [List.cons_append, List.nil_append]); (repeat (first | with_reducible exact List.Sublist.refl _ | with_reducible exact List.nil_sublist _ | with_reducible apply List.Sublist.cons_cons | with_reducible apply sub_app | apply List.Sublist.cons_cons | apply sub_app | with_reducible apply List.Sublist.cons | with_reducible apply sub_skip))) ?_
      rfl
def orI (l : List Int) : Int := (l.find? fun x => decide (x ≠ 0)).getD 0
theorem orI_zero {l : List Int} (h : ∀ i < l.length, l.getD i 0 = 0) : orI l = 0 := by
  unfold orI
  rw [List.find?_eq_none.2]
  · rfl
  · intro x hx
    obtain ⟨i, hi, rfl⟩ := List.mem_iff_getElem.1 hx
    have := h i hi
    rw [List.getD_eq_getElem?_getD, List.getElem?_eq_getElem hi] at this
    simpa using this
theorem orI_first : ∀ {l : List Int} {i : Nat}, i < l.length → (∀ j < i, l.getD j 0 = 0) → l.getD i 0 ≠ 0 → orI l = l.getD i 0
  | x :: l, 0, _, _, h => by
    have hx : x ≠ 0 := h
    unfold orI
    rw [List.find?_cons_of_pos (by simpa using hx)]; rfl
  | x :: l, i + 1, hi, h0, h => by
    have hx : x = 0 := h0 0 (Nat.succ_pos _)
    have ih := orI_first (l := l) (i := i) (by simpa using hi) (fun j hj => h0 (j + 1) (by omega)) h
    unfold orI at ih ⊢
    rw [List.find?_cons_of_neg (by simpa using hx), ih]; rfl
theorem f171 (l : List Int) (a : Option Addr) (c : Nat) (hl : l.length ≤ 1000) (h : View) (O : Hp) (hr : Rd h O a (l.map zI)) : GSpec Try.prog 171 [.slice a l.length c] h O (Ret O (.int .i64 (orI l))) := by
  refine GSpec.enter (fn := Try.f171) Try.func171 rfl (by kernel_rfl) ?_
  repeat' (conv => whnf
           first
           | (with_reducible refine NextSt.mk ?_))
  refine LoopSt.fix [2, 5, 8, 9, 10, 11, 12, 13, 14, 15, 16] (fun (i : Nat) => [(8, iN i)]) (fun _ => _) (fun i => i ≤ l.length ∧ ∀ j < i, l.getD j 0 = 0) (fun i => l.length - i) (0) _ (Wk.refl _ _) (rfl) ?_ ?_ ?_
  · repeat' (first | exact True.intro | refine And.intro ?_ ?_ | rfl | exact congrArg (Value.int _) (by omega) | exact congrArg (fun n => Value.slice _ n _) (by (try dsimp only); omega))
  · exact ⟨Nat.zero_le _, fun j hj => by omega⟩
  · rintro i d ⟨hi, hall⟩
    by_cases hil : i < l.length
    · by_cases hz : l.getD i 0 = 0
      · repeat' (conv => whnf
                 first
                 | ((refine LoadSt.rdZ (xs := l) (k := i) hr hil ?_))
                 | (with_reducible refine NextSt.mk ?_)
                 | (with_reducible refine OnBB.tt ?_)
                 | (with_reducible refine OnBB.ff ?_)
                 | ((with_reducible apply NW.addN); (· first | with_reducible rfl | exact natL _); (· first | with_reducible rfl | exact natL _); (· omega))
                 | ((with_reducible apply Cmp.yes); · first | omega | (with_reducible assumption) | (with_reducible rfl))
                 | ((with_reducible apply Cmp.no); · first | omega | (with_reducible assumption))
                 | ((with_reducible apply IdxSl.rd1); (· with_reducible assumption); (· rfl); (· first | with_reducible rfl | exact natL _); (· (first | omega | (simp only [List.length_map, List.length_append, List.length_cons, List.length_nil, List.length_take, List.length_drop, List.length_replicate, List.length_set] at *; omega))); · (first | omega | (simp only [List.length_map, List.length_append, List.length_cons, List.length_nil, List.length_take, List.length_drop, List.length_replicate, List.length_set] at *; omega))))
        refine RoundFix.mk (i + 1) ?_ ?_ _ rfl (Wk.drop (by (try dsimp only); (try simp only [List.cons_append, List.nil_append]); (repeat (first | with_reducible exact List.Sublist.refl _ | with_reducible exact List.nil_sublist _ | with_reducible apply List.Sublist.cons_cons | with_reducible apply sub_app | apply List.Sublist.cons_cons | apply sub_app | with_reducible apply List.Sublist.cons | with_reducible apply sub_skip)))) ?_
        · omega
        · repeat' (first | exact True.intro | refine And.intro ?_ ?_ | rfl | exact congrArg (Value.int _) (by omega) | exact congrArg (fun n => Value.slice _ n _) (by (try dsimp only); omega))
        · refine ⟨hil, fun j hj => ?_⟩
          by_cases e : j = i
          · rw [e]; exact hz
          · exact hall j (by omega)
      · rw [orI_first hil hall hz]
        repeat' (conv => whnf
                 first
                 | ((refine LoadSt.rdZ (xs := l) (k := i) hr hil ?_))
                 | (with_reducible refine NextSt.mk ?_)
                 | (with_reducible refine OnBB.tt ?_)
                 | ((with_reducible apply Cmp.yes); · first | omega | (with_reducible assumption) | (with_reducible rfl))
                 | ((with_reducible apply IdxSl.rd1); (· with_reducible assumption); (· rfl); (· first | with_reducible rfl | exact natL _); (· (first | omega | (simp only [List.length_map, List.length_append, List.length_cons, List.length_nil, List.length_take, List.length_drop, List.length_replicate, List.length_set] at *; omega))); · (first | omega | (simp only [List.length_map, List.length_append, List.length_cons, List.length_nil, List.length_take, List.length_drop, List.length_replicate, List.length_set] at *; omega))))
        conv => whnf
        refine FinSt.ret (by (try dsimp only); (try simp only [List.cons_append, List.nil_append]); (repeat (first | with_reducible exact List.Sublist.refl _ | with_reducible exact List.nil_sublist _ | with_reducible apply List.Sublist.cons_cons | with_reducible apply sub_app | apply List.Sublist.cons_cons | apply sub_app | with_reducible apply List.Sublist.cons | with_reducible apply sub_skip))) ?_
        rfl
    · rw [orI_zero fun j hj => hall j (by omega)]
      repeat' (conv => whnf
               first
               | (with_reducible refine NextSt.mk ?_)
               | (with_reducible refine OnBB.ff ?_)
               | ((with_reducible apply Cmp.no); · first | omega | (with_reducible assumption)))
      conv => whnf
      refine FinSt.ret (by (try dsimp only); (try simp only [List.cons_append, List.nil_append]); (repeat (first | with_reducible exact List.Sublist.refl _ | with_reducible exact List.nil_sublist _ | with_reducible apply List.Sublist.cons_cons | with_reducible apply sub_app | apply List.Sublist.cons_cons | apply sub_app | with_reducible apply List.Sublist.cons | with_reducible apply sub_skip))) ?_
      rfl
theorem cmpI_zero {a b : Int} : cmpI a b = 0 ↔ a = b := by
  unfold cmpI
  split
  · omega
  · split <;> omega
theorem orI_two {a b : Int} : orI [a, b] = 0 ↔ a = 0 ∧ b = 0 := by
  unfold orI
  by_cases ha : a = 0
  · rw [List.find?_cons_of_neg (by simpa using ha)]
    by_cases hb : b = 0
    · rw [List.find?_cons_of_neg (by simpa using hb)]; simp [ha, hb]
    · rw [List.find?_cons_of_pos (by simpa using hb)]; simp [hb]
  · rw [List.find?_cons_of_pos (by simpa using ha)]; simp [ha]
theorem f165 (e f : En) (h : View) (O : Hp) : GSpec Try.prog 165 [.agg ⟨enV e⟩, .agg ⟨enV f⟩] h O (Ret O (.int .i64 (orI [cmpI e.office f.office, cmpI e.no f.no]))) := by
  have e1 := fun O => f172 e.office f.office h O
  have e2 := fun O => f172 e.no f.no h O
  have e3 := fun a c O hr => f171 [cmpI e.office f.office, cmpI e.no f.no] a c (by simp) h O hr
  obtain ⟨o, n, b⟩ := e
  obtain ⟨o2, n2, b2⟩ := f
  simp only at e1 e2 e3 ⊢
  show GSpec Try.prog 165 [.agg ⟨[.int .i64 o, .int .i64 n, sV b]⟩, .agg ⟨[.int .i64 o2, .int .i64 n2, sV b2]⟩] h O _
  generalize cmpI o o2 = x at *
  generalize cmpI n n2 = y at *
  generalize hz : orI [x, y] = z at *
  refine GSpec.enter (fn := Try.f165) Try.func165 rfl (by kernel_rfl) ?_
  repeat' (conv => whnf
           first
           | (((with_reducible refine CallG.rd (f := 172) (X := .int .i64 x) ?_ ?_); (· (apply GSpec.cast (sp := e1 _); (· (repeat' (first | with_reducible rfl | refine congrArg₂ List.cons ?_ ?_ | exact iN_lit _ | rfl)))))))
           | (((with_reducible refine CallG.rd (f := 172) (X := .int .i64 y) ?_ ?_); (· (apply GSpec.cast (sp := e2 _); (· (repeat' (first | with_reducible rfl | refine congrArg₂ List.cons ?_ ?_ | exact iN_lit _ | rfl)))))))
           | (((with_reducible refine CallG.rd (f := 171) (X := .int .i64 z) ?_ ?_); (· (apply GSpec.cast (sp := e3 _ _ _ (Rd.own0 (by (repeat (first | exact List.Mem.head _ | with_reducible apply List.mem_append_right | with_reducible apply List.mem_cons_of_mem))))); (· (repeat' (first | with_reducible rfl | refine congrArg₂ List.cons ?_ ?_ | exact iN_lit _ | rfl)))))))
           | ((with_reducible refine DrawSt.walk [0, 1, 2, 3, 5, 6, 7, 8, 4, 9, 10, 11, 12] mixed ?_ ?_); · decide +kernel)
           | (with_reducible refine NextSt.mk ?_)
           | ((with_reducible apply LoadSt.box); · (repeat (first | exact List.Mem.head _ | with_reducible apply List.mem_append_right | with_reducible apply List.mem_cons_of_mem)))
           | ((with_reducible refine AllocSt.mk ?_); intro _b _hb _hbO))
  conv => whnf
  refine FinSt.ret (by (try dsimp only); (try simp only [List.cons_append, List.nil_append]); (repeat (first | with_reducible exact List.Sublist.refl _ | with_reducible exact List.nil_sublist _ | with_reducible apply List.Sublist.cons_cons | with_reducible apply sub_app | apply List.Sublist.cons_cons | apply sub_app | with_reducible apply List.Sublist.cons | with_reducible apply sub_skip))) ?_
  rfl
theorem f164 (e f : En) (h : View) (O : Hp) : GSpec Try.prog 164 [.agg ⟨enV e⟩, .agg ⟨enV f⟩] h O (Ret O (.bool (decide (e.office = f.office ∧ e.no = f.no)))) := by
  have e1 := fun O => f165 e f h O
  have hz : orI [cmpI e.office f.office, cmpI e.no f.no] = 0 ↔ e.office = f.office ∧ e.no = f.no := by rw [orI_two, cmpI_zero, cmpI_zero]
  generalize orI [cmpI e.office f.office, cmpI e.no f.no] = z at *
  obtain ⟨o, n, b⟩ := e
  obtain ⟨o2, n2, b2⟩ := f
  simp only at hz ⊢
  have e1' : ∀ O, GSpec Try.prog 165 [.agg ⟨[.int .i64 o, .int .i64 n, sV b]⟩, .agg ⟨[.int .i64 o2, .int .i64 n2, sV b2]⟩] h O (Ret O (.int .i64 z)) := e1
  show GSpec Try.prog 164 [.agg ⟨[.int .i64 o, .int .i64 n, sV b]⟩, .agg ⟨[.int .i64 o2, .int .i64 n2, sV b2]⟩] h O _
  by_cases hs : o = o2 ∧ n = n2
  · rw [decide_eq_true hs]
    have h0 : z = 0 := hz.2 hs
    refine GSpec.enter (fn := Try.f164) Try.func164 rfl (by kernel_rfl) ?_
    repeat' (conv => whnf
             first
             | (((with_reducible refine CallSt.rd (f := 165) (X := .int .i64 z) ?_ ?_); (· exact e1' _)))
             | (with_reducible refine NextSt.mk ?_)
             | ((with_reducible apply Cmp.yes); · first | omega | (with_reducible assumption) | (with_reducible rfl))
             | ((with_reducible apply LoadSt.boxAgg); · (repeat (first | exact List.Mem.head _ | with_reducible apply List.mem_append_right | with_reducible apply List.mem_cons_of_mem)))
             | ((with_reducible refine AllocSt.mk ?_); intro _b _hb _hbO))
    conv => whnf
    refine FinSt.ret (by (try dsimp only); (try simp only [List.cons_append, List.nil_append]); (repeat (first | with_reducible exact List.Sublist.refl _ | with_reducible exact List.nil_sublist _ | with_reducible apply List.Sublist.cons_cons | with_reducible apply sub_app | apply List.Sublist.cons_cons | apply sub_app | with_reducible apply List.Sublist.cons | with_reducible apply sub_skip))) ?_
    rfl
  · rw [decide_eq_false hs]
    have h0 : z ≠ 0 := fun e => hs (hz.1 e)
    refine GSpec.enter (fn := Try.f164) Try.func164 rfl (by kernel_rfl) ?_
    repeat' (conv => whnf
             first
             | (((with_reducible refine CallSt.rd (f := 165) (X := .int .i64 z) ?_ ?_); (· exact e1' _)))
             | (with_reducible refine NextSt.mk ?_)
             | ((with_reducible apply Cmp.no); · first | omega | (with_reducible assumption))
             | ((with_reducible apply LoadSt.boxAgg); · (repeat (first | exact List.Mem.head _ | with_reducible apply List.mem_append_right | with_reducible apply List.mem_cons_of_mem)))
             | ((with_reducible refine AllocSt.mk ?_); intro _b _hb _hbO))
    conv => whnf
    refine FinSt.ret (by (try dsimp only); (try simp only [List.cons_append, List.nil_append]); (repeat (first | with_reducible exact List.Sublist.refl _ | with_reducible exact List.nil_sublist _ | with_reducible apply List.Sublist.cons_cons | with_reducible apply sub_app | apply List.Sublist.cons_cons | apply sub_app | with_reducible apply List.Sublist.cons | with_reducible apply sub_skip))) ?_
    rfl
end Go.Proofs.Ytlbmlimaobkhpaa
/- The reference: messages put together. -/
namespace Go.Proofs.Ytlbmlimaobkhpaa
open Go Go.Gv
set_option maxRecDepth 100000
set_option maxHeartbeats 8000000
set_option linter.unusedSimpArgs false
set_option linter.unusedVariables false
/-- The least body of a part among the first j frames. -/
def leT (l : List Fr) (k : Ky) (p : Int) (j : Nat) : Option Str := leastB (l.take j) k p
theorem leT_succ {l : List Fr} {k : Ky} {p : Int} {j : Nat} (h : j < l.length) : leT l k p (j + 1) = if kyF (l.getD j default) = k ∧ (l.getD j default).part = p then less1 (leT l k p j) (l.getD j default).body else leT l k p j := by
  unfold leT leastB
  rw [List.take_add_one, List.getElem?_eq_getElem h, List.foldl_append, List.getD_eq_getElem?_getD, List.getElem?_eq_getElem h]
  rfl
theorem leT_all (l : List Fr) (k : Ky) (p : Int) : leT l k p l.length = leastB l k p := by unfold leT; rw [List.take_length]
theorem leT_len {l : List Fr} (hl : ∀ f ∈ l, f.body.length ≤ 32) (k : Ky) (p : Int) : ∀ (j : Nat) (s : Str), leT l k p j = some s → s.length ≤ 32
  | 0, s, h => by simp [leT, leastB] at h
  | j + 1, s, h => by
    by_cases hj : j < l.length
    · rw [leT_succ hj] at h
      have ih := leT_len hl k p j
      have hf := hl (l.getD j default) (by rw [List.getD_eq_getElem?_getD, List.getElem?_eq_getElem hj]; exact List.getElem_mem _)
      split at h
      · rcases (less1_spec h).1 with rfl | h2
        · exact hf
        · exact ih s h2
      · exact ih s h
    · have e : leT l k p (j + 1) = leT l k p j := by
        unfold leT
        rw [List.take_of_length_le (by omega), List.take_of_length_le (by omega)]
      rw [e] at h
      exact leT_len hl k p j s h
def en0 : En := ⟨0, 0, []⟩
def enR (e : Option En) : Value := .tuple ⟨[.agg ⟨enV (e.getD en0)⟩, .bool e.isSome]⟩
theorem f166 (l : List Fr) (o n p : Int) (a : Option Addr) (c : Nat) (hl : l.length ≤ 4096) (hb : ∀ f ∈ l, f.body.length ≤ 32) (hp : 0 ≤ p ∧ p ≤ 32) (h : View) (O : Hp) (hr : Rd h O a (l.flatMap frV)) :
    GSpec Try.prog 166 [.slice a l.length c, .int .i64 o, .int .i64 n, .int .i64 p] h O (Ret O (enR ((wholeT l o n p).map fun s => ⟨o, n, s⟩))) := by
  refine GSpec.enter (fn := Try.f166) Try.func166 rfl (by kernel_rfl) ?_
  repeat' (conv => whnf
           first
           | (with_reducible refine NextSt.mk ?_)
           | ((with_reducible refine AllocSt.mk ?_); intro _b _hb _hbO)
           | ((with_reducible apply StoreSt.box); (· (repeat (first | exact Upd.hd | apply Upd.tl | apply Upd.app))); (· rfl); (· rfl); (· rfl)))
  rename_i b8 _ _
  obtain ⟨b10, hb10⟩ : ∃ x, x = _b := ⟨_, rfl⟩
  subst hb10
  have hbr : ∀ i : Nat, ∀ s, leastB l (o, n, p) i = some s → s.length ≤ 32 := fun i s hs => leT_len hb _ _ l.length s (by rw [leT_all]; exact hs)
  refine LoopSt.fix [9, 11, 12, 13, 14, 15, 19, 20, 21, 22, 23, 24, 25, 26, 27, 28, 29, 30, 31, 32, 33, 34, 35, 36, 37, 38, 39, 40, 41, 42, 43, 44, 45, 46, 47, 48, 49, 50, 51, 52, 53, 54, 55, 56, 57, 58, 59, 60, 61, 62, 63, 64, 65, 66, 67, 68, 69, 70, 71, 72, 73, 74, 75] (fun ((i, s) : Nat × Str) => [(11, iN i)]) (fun (i, s) => (b10, .cells ⟨[.int .i64 o, .int .i64 n, sV s]⟩ 70 (0, 0)) :: (b8, .cells ⟨[.int .i64 0, .int .i64 0, sV []]⟩ 70 (0, 0)) :: O) (fun (i, s) => i ≤ p.toNat ∧ joinT (leastB l (o, n, p)) i = some s ∧ s.length ≤ 32 * i) (fun (i, s) => p.toNat - i) ((0, [])) _ (Wk.refl _ _) (rfl) ?_ ?_ ?_
  · repeat' (first | exact True.intro | refine And.intro ?_ ?_ | rfl | exact congrArg (Value.int _) (by omega) | exact congrArg (fun n => Value.slice _ n _) (by (try dsimp only); omega))
  · exact ⟨Nat.zero_le _, rfl, Nat.zero_le _⟩
  · rintro ⟨i, s⟩ d ⟨hi, hj, hsl⟩
    dsimp only at hi hj hsl ⊢
    by_cases hip : i < p.toNat
    · have hstep : joinT (leastB l (o, n, p)) (i + 1) = (leastB l (o, n, p) i).map fun b => s ++ b := by rw [joinT, hj]; rfl
      have hbi := hbr i
      repeat' (conv => whnf
               first
               | (with_reducible refine NextSt.mk ?_)
               | (with_reducible refine OnBB.tt ?_)
               | ((with_reducible apply Cmp.yes); · first | omega | (with_reducible assumption) | (with_reducible rfl)))
      refine LoopSt.fix [12, 13, 14, 15, 24, 25, 26, 27, 28, 29, 30, 31, 32, 33, 34, 35, 36, 37, 38, 39, 40, 41, 42, 43, 44, 45, 46, 47, 48, 49, 50, 51, 52, 53, 54, 55, 56, 57, 58, 59, 60, 61, 62, 63, 64, 65, 66, 67] (fun (j : Nat) => [(12, .bool (leT l (o, n, p) i j).isSome), (13, sV ((leT l (o, n, p) i j).getD [])), (14, iN j)]) (fun _ => _) (fun j => j ≤ l.length) (fun j => l.length - j) (0) _ (Wk.refl _ _) (rfl) ?_ ?_ ?_
      · repeat' (first | exact True.intro | refine And.intro ?_ ?_ | rfl | exact congrArg (Value.int _) (by omega) | exact congrArg (fun n => Value.slice _ n _) (by (try dsimp only); omega))
      · exact Nat.zero_le _
      · intro j d2 hjl
        by_cases hjn : j < l.length
        · have hst := leT_succ (k := (o, n, p)) (p := i) hjn
          generalize hacc : leT l (o, n, p) i j = acc at *
          by_cases h1 : (l.getD j default).office = o
          · by_cases h2 : (l.getD j default).no = n
            · by_cases h3 : (l.getD j default).parts = p
              · by_cases h4 : (l.getD j default).part = i
                · have hky : kyF (l.getD j default) = (o, n, p) := by unfold kyF; rw [h1, h2, h3]
                  rw [if_pos ⟨hky, h4⟩] at hst
                  cases acc with
                  | none =>
                    simp only [less1] at hst
                    simp only [Option.isSome_none, Option.getD_none]
                    repeat' (conv => whnf
                             first
                             | ((with_reducible apply LoadSt.rdg (g := frV) (s := 5)); (· rfl); (· (repeat (first | with_reducible assumption | (with_reducible apply Buf.rd; with_reducible assumption) | (with_reducible apply Rd.appL; with_reducible assumption) | (with_reducible apply Rd.appL; with_reducible apply Buf.rd; with_reducible assumption) | with_reducible apply Rd.cons | with_reducible apply Rd.appR))); (· exact fun _ => rfl); (· decide); · (first | omega | (simp only [List.length_map, List.length_append, List.length_cons, List.length_nil, List.length_take, List.length_drop, List.length_replicate, List.length_set] at *; omega)))
                             | ((with_reducible apply IdxSl.rdg (g := frV) (s := 5)); (· with_reducible assumption); (· exact fun _ => rfl); (· decide); (· rfl); (· first | with_reducible rfl | exact natL _); (· (first | omega | (simp only [List.length_map, List.length_append, List.length_cons, List.length_nil, List.length_take, List.length_drop, List.length_replicate, List.length_set] at *; omega))); · (first | omega | (simp only [List.length_map, List.length_append, List.length_cons, List.length_nil, List.length_take, List.length_drop, List.length_replicate, List.length_set] at *; omega)))
                             | (with_reducible refine NextSt.mk ?_)
                             | (with_reducible refine OnBB.tt ?_)
                             | (with_reducible refine OnBB.ff ?_)
                             | ((with_reducible apply NW.addN); (· first | with_reducible rfl | exact natL _); (· first | with_reducible rfl | exact natL _); (· omega))
                             | ((with_reducible apply Cmp.yes); · first | omega | (with_reducible assumption) | (with_reducible rfl))
                             | ((with_reducible apply LoadSt.box); · (repeat (first | exact List.Mem.head _ | with_reducible apply List.mem_append_right | with_reducible apply List.mem_cons_of_mem)))
                             | ((with_reducible refine AllocSt.mk ?_); intro _b _hb _hbO)
                             | ((with_reducible apply StoreSt.box); (· (repeat (first | exact Upd.hd | apply Upd.tl | apply Upd.app))); (· rfl); (· rfl); (· rfl)))
                    refine RoundFix.mk (j + 1) ?_ ?_ _ rfl (Wk.drop (by (try dsimp only); (try simp only [List.cons_append, List.nil_append]); (repeat (first | with_reducible exact List.Sublist.refl _ | with_reducible exact List.nil_sublist _ | with_reducible apply List.Sublist.cons_cons | with_reducible apply sub_app | apply List.Sublist.cons_cons | apply sub_app | with_reducible apply List.Sublist.cons | with_reducible apply sub_skip)))) ?_
                    · omega
                    · rw [hst]
                      repeat' (first | exact True.intro | refine And.intro ?_ ?_ | rfl | exact congrArg (Value.int _) (by omega) | exact congrArg (fun n => Value.slice _ n _) (by (try dsimp only); omega))
                    · exact hjn
                  | some w =>
                    simp only [Option.isSome_some, Option.getD_some]
                    by_cases hb2 : Op.bytesLess (l.getD j default).body w = true
                    · have hn : leT l (o, n, p) i (j + 1) = some (l.getD j default).body := by rw [hst]; exact if_pos hb2
                      repeat' (conv => whnf
                               first
                               | ((with_reducible apply LoadSt.rdg (g := frV) (s := 5)); (· rfl); (· (repeat (first | with_reducible assumption | (with_reducible apply Buf.rd; with_reducible assumption) | (with_reducible apply Rd.appL; with_reducible assumption) | (with_reducible apply Rd.appL; with_reducible apply Buf.rd; with_reducible assumption) | with_reducible apply Rd.cons | with_reducible apply Rd.appR))); (· exact fun _ => rfl); (· decide); · (first | omega | (simp only [List.length_map, List.length_append, List.length_cons, List.length_nil, List.length_take, List.length_drop, List.length_replicate, List.length_set] at *; omega)))
                               | ((with_reducible apply IdxSl.rdg (g := frV) (s := 5)); (· with_reducible assumption); (· exact fun _ => rfl); (· decide); (· rfl); (· first | with_reducible rfl | exact natL _); (· (first | omega | (simp only [List.length_map, List.length_append, List.length_cons, List.length_nil, List.length_take, List.length_drop, List.length_replicate, List.length_set] at *; omega))); · (first | omega | (simp only [List.length_map, List.length_append, List.length_cons, List.length_nil, List.length_take, List.length_drop, List.length_replicate, List.length_set] at *; omega)))
                               | (with_reducible refine NextSt.mk ?_)
                               | (with_reducible refine OnBB.tt ?_)
                               | (with_reducible refine OnBB.ff ?_)
                               | ((with_reducible apply NW.addN); (· first | with_reducible rfl | exact natL _); (· first | with_reducible rfl | exact natL _); (· omega))
                               | ((with_reducible apply Cmp.yes); · first | omega | (with_reducible assumption) | (with_reducible rfl))
                               | ((with_reducible apply LoadSt.box); · (repeat (first | exact List.Mem.head _ | with_reducible apply List.mem_append_right | with_reducible apply List.mem_cons_of_mem)))
                               | ((with_reducible refine AllocSt.mk ?_); intro _b _hb _hbO)
                               | ((with_reducible apply StoreSt.box); (· (repeat (first | exact Upd.hd | apply Upd.tl | apply Upd.app))); (· rfl); (· rfl); (· rfl)))
                      refine RoundFix.mk (j + 1) ?_ ?_ _ rfl (Wk.drop (by (try dsimp only); (try simp only [List.cons_append, List.nil_append]); (repeat (first | with_reducible exact List.Sublist.refl _ | with_reducible exact List.nil_sublist _ | with_reducible apply List.Sublist.cons_cons | with_reducible apply sub_app | apply List.Sublist.cons_cons | apply sub_app | with_reducible apply List.Sublist.cons | with_reducible apply sub_skip)))) ?_
                      · omega
                      · rw [hn]
                        repeat' (first | exact True.intro | refine And.intro ?_ ?_ | rfl | exact congrArg (Value.int _) (by omega) | exact congrArg (fun n => Value.slice _ n _) (by (try dsimp only); omega))
                      · exact hjn
                    · have hn : leT l (o, n, p) i (j + 1) = some w := by rw [hst]; exact if_neg hb2
                      repeat' (conv => whnf
                               first
                               | ((with_reducible apply LoadSt.rdg (g := frV) (s := 5)); (· rfl); (· (repeat (first | with_reducible assumption | (with_reducible apply Buf.rd; with_reducible assumption) | (with_reducible apply Rd.appL; with_reducible assumption) | (with_reducible apply Rd.appL; with_reducible apply Buf.rd; with_reducible assumption) | with_reducible apply Rd.cons | with_reducible apply Rd.appR))); (· exact fun _ => rfl); (· decide); · (first | omega | (simp only [List.length_map, List.length_append, List.length_cons, List.length_nil, List.length_take, List.length_drop, List.length_replicate, List.length_set] at *; omega)))
                               | ((with_reducible apply IdxSl.rdg (g := frV) (s := 5)); (· with_reducible assumption); (· exact fun _ => rfl); (· decide); (· rfl); (· first | with_reducible rfl | exact natL _); (· (first | omega | (simp only [List.length_map, List.length_append, List.length_cons, List.length_nil, List.length_take, List.length_drop, List.length_replicate, List.length_set] at *; omega))); · (first | omega | (simp only [List.length_map, List.length_append, List.length_cons, List.length_nil, List.length_take, List.length_drop, List.length_replicate, List.length_set] at *; omega)))
                               | (with_reducible refine NextSt.mk ?_)
                               | (with_reducible refine OnBB.tt ?_)
                               | (with_reducible refine OnBB.ff ?_)
                               | ((with_reducible apply NW.addN); (· first | with_reducible rfl | exact natL _); (· first | with_reducible rfl | exact natL _); (· omega))
                               | ((with_reducible apply Cmp.yes); · first | omega | (with_reducible assumption) | (with_reducible rfl))
                               | ((with_reducible apply Cmp.no); · first | omega | (with_reducible assumption))
                               | ((with_reducible apply LoadSt.box); · (repeat (first | exact List.Mem.head _ | with_reducible apply List.mem_append_right | with_reducible apply List.mem_cons_of_mem)))
                               | ((with_reducible refine AllocSt.mk ?_); intro _b _hb _hbO)
                               | ((with_reducible apply StoreSt.box); (· (repeat (first | exact Upd.hd | apply Upd.tl | apply Upd.app))); (· rfl); (· rfl); (· rfl)))
                      refine RoundFix.mk (j + 1) ?_ ?_ _ rfl (Wk.drop (by (try dsimp only); (try simp only [List.cons_append, List.nil_append]); (repeat (first | with_reducible exact List.Sublist.refl _ | with_reducible exact List.nil_sublist _ | with_reducible apply List.Sublist.cons_cons | with_reducible apply sub_app | apply List.Sublist.cons_cons | apply sub_app | with_reducible apply List.Sublist.cons | with_reducible apply sub_skip)))) ?_
                      · omega
                      · rw [hn]
                        repeat' (first | exact True.intro | refine And.intro ?_ ?_ | rfl | exact congrArg (Value.int _) (by omega) | exact congrArg (fun n => Value.slice _ n _) (by (try dsimp only); omega))
                      · exact hjn
                · have hn : leT l (o, n, p) i (j + 1) = acc := by rw [hst, if_neg (fun e => h4 (e.2))]
                  repeat' (conv => whnf
                           first
                           | ((with_reducible apply LoadSt.rdg (g := frV) (s := 5)); (· rfl); (· (repeat (first | with_reducible assumption | (with_reducible apply Buf.rd; with_reducible assumption) | (with_reducible apply Rd.appL; with_reducible assumption) | (with_reducible apply Rd.appL; with_reducible apply Buf.rd; with_reducible assumption) | with_reducible apply Rd.cons | with_reducible apply Rd.appR))); (· exact fun _ => rfl); (· decide); · (first | omega | (simp only [List.length_map, List.length_append, List.length_cons, List.length_nil, List.length_take, List.length_drop, List.length_replicate, List.length_set] at *; omega)))
                           | ((with_reducible apply IdxSl.rdg (g := frV) (s := 5)); (· with_reducible assumption); (· exact fun _ => rfl); (· decide); (· rfl); (· first | with_reducible rfl | exact natL _); (· (first | omega | (simp only [List.length_map, List.length_append, List.length_cons, List.length_nil, List.length_take, List.length_drop, List.length_replicate, List.length_set] at *; omega))); · (first | omega | (simp only [List.length_map, List.length_append, List.length_cons, List.length_nil, List.length_take, List.length_drop, List.length_replicate, List.length_set] at *; omega)))
                           | (with_reducible refine NextSt.mk ?_)
                           | (with_reducible refine OnBB.tt ?_)
                           | (with_reducible refine OnBB.ff ?_)
                           | ((with_reducible apply NW.addN); (· first | with_reducible rfl | exact natL _); (· first | with_reducible rfl | exact natL _); (· omega))
                           | ((with_reducible apply Cmp.yes); · first | omega | (with_reducible assumption) | (with_reducible rfl))
                           | ((with_reducible apply Cmp.no); · first | omega | (with_reducible assumption))
                           | ((with_reducible apply LoadSt.box); · (repeat (first | exact List.Mem.head _ | with_reducible apply List.mem_append_right | with_reducible apply List.mem_cons_of_mem)))
                           | ((with_reducible refine AllocSt.mk ?_); intro _b _hb _hbO)
                           | ((with_reducible apply StoreSt.box); (· (repeat (first | exact Upd.hd | apply Upd.tl | apply Upd.app))); (· rfl); (· rfl); (· rfl)))
                  refine RoundFix.mk (j + 1) ?_ ?_ _ rfl (Wk.drop (by (try dsimp only); (try simp only [List.cons_append, List.nil_append]); (repeat (first | with_reducible exact List.Sublist.refl _ | with_reducible exact List.nil_sublist _ | with_reducible apply List.Sublist.cons_cons | with_reducible apply sub_app | apply List.Sublist.cons_cons | apply sub_app | with_reducible apply List.Sublist.cons | with_reducible apply sub_skip)))) ?_
                  · omega
                  · rw [hn]
                    repeat' (first | exact True.intro | refine And.intro ?_ ?_ | rfl | exact congrArg (Value.int _) (by omega) | exact congrArg (fun n => Value.slice _ n _) (by (try dsimp only); omega))
                  · exact hjn
              · have hn : leT l (o, n, p) i (j + 1) = acc := by rw [hst, if_neg (fun e => h3 (congrArg (fun x => x.2.2) e.1))]
                repeat' (conv => whnf
                         first
                         | ((with_reducible apply LoadSt.rdg (g := frV) (s := 5)); (· rfl); (· (repeat (first | with_reducible assumption | (with_reducible apply Buf.rd; with_reducible assumption) | (with_reducible apply Rd.appL; with_reducible assumption) | (with_reducible apply Rd.appL; with_reducible apply Buf.rd; with_reducible assumption) | with_reducible apply Rd.cons | with_reducible apply Rd.appR))); (· exact fun _ => rfl); (· decide); · (first | omega | (simp only [List.length_map, List.length_append, List.length_cons, List.length_nil, List.length_take, List.length_drop, List.length_replicate, List.length_set] at *; omega)))
                         | ((with_reducible apply IdxSl.rdg (g := frV) (s := 5)); (· with_reducible assumption); (· exact fun _ => rfl); (· decide); (· rfl); (· first | with_reducible rfl | exact natL _); (· (first | omega | (simp only [List.length_map, List.length_append, List.length_cons, List.length_nil, List.length_take, List.length_drop, List.length_replicate, List.length_set] at *; omega))); · (first | omega | (simp only [List.length_map, List.length_append, List.length_cons, List.length_nil, List.length_take, List.length_drop, List.length_replicate, List.length_set] at *; omega)))
                         | (with_reducible refine NextSt.mk ?_)
                         | (with_reducible refine OnBB.tt ?_)
                         | (with_reducible refine OnBB.ff ?_)
                         | ((with_reducible apply NW.addN); (· first | with_reducible rfl | exact natL _); (· first | with_reducible rfl | exact natL _); (· omega))
                         | ((with_reducible apply Cmp.yes); · first | omega | (with_reducible assumption) | (with_reducible rfl))
                         | ((with_reducible apply Cmp.no); · first | omega | (with_reducible assumption))
                         | ((with_reducible apply LoadSt.box); · (repeat (first | exact List.Mem.head _ | with_reducible apply List.mem_append_right | with_reducible apply List.mem_cons_of_mem)))
                         | ((with_reducible refine AllocSt.mk ?_); intro _b _hb _hbO)
                         | ((with_reducible apply StoreSt.box); (· (repeat (first | exact Upd.hd | apply Upd.tl | apply Upd.app))); (· rfl); (· rfl); (· rfl)))
                refine RoundFix.mk (j + 1) ?_ ?_ _ rfl (Wk.drop (by (try dsimp only); (try simp only [List.cons_append, List.nil_append]); (repeat (first | with_reducible exact List.Sublist.refl _ | with_reducible exact List.nil_sublist _ | with_reducible apply List.Sublist.cons_cons | with_reducible apply sub_app | apply List.Sublist.cons_cons | apply sub_app | with_reducible apply List.Sublist.cons | with_reducible apply sub_skip)))) ?_
                · omega
                · rw [hn]
                  repeat' (first | exact True.intro | refine And.intro ?_ ?_ | rfl | exact congrArg (Value.int _) (by omega) | exact congrArg (fun n => Value.slice _ n _) (by (try dsimp only); omega))
                · exact hjn
            · have hn : leT l (o, n, p) i (j + 1) = acc := by rw [hst, if_neg (fun e => h2 (congrArg (fun x => x.2.1) e.1))]
              repeat' (conv => whnf
                       first
                       | ((with_reducible apply LoadSt.rdg (g := frV) (s := 5)); (· rfl); (· (repeat (first | with_reducible assumption | (with_reducible apply Buf.rd; with_reducible assumption) | (with_reducible apply Rd.appL; with_reducible assumption) | (with_reducible apply Rd.appL; with_reducible apply Buf.rd; with_reducible assumption) | with_reducible apply Rd.cons | with_reducible apply Rd.appR))); (· exact fun _ => rfl); (· decide); · (first | omega | (simp only [List.length_map, List.length_append, List.length_cons, List.length_nil, List.length_take, List.length_drop, List.length_replicate, List.length_set] at *; omega)))
                       | ((with_reducible apply IdxSl.rdg (g := frV) (s := 5)); (· with_reducible assumption); (· exact fun _ => rfl); (· decide); (· rfl); (· first | with_reducible rfl | exact natL _); (· (first | omega | (simp only [List.length_map, List.length_append, List.length_cons, List.length_nil, List.length_take, List.length_drop, List.length_replicate, List.length_set] at *; omega))); · (first | omega | (simp only [List.length_map, List.length_append, List.length_cons, List.length_nil, List.length_take, List.length_drop, List.length_replicate, List.length_set] at *; omega)))
                       | (with_reducible refine NextSt.mk ?_)
                       | (with_reducible refine OnBB.tt ?_)
                       | (with_reducible refine OnBB.ff ?_)
                       | ((with_reducible apply NW.addN); (· first | with_reducible rfl | exact natL _); (· first | with_reducible rfl | exact natL _); (· omega))
                       | ((with_reducible apply Cmp.yes); · first | omega | (with_reducible assumption) | (with_reducible rfl))
                       | ((with_reducible apply Cmp.no); · first | omega | (with_reducible assumption))
                       | ((with_reducible apply LoadSt.box); · (repeat (first | exact List.Mem.head _ | with_reducible apply List.mem_append_right | with_reducible apply List.mem_cons_of_mem)))
                       | ((with_reducible refine AllocSt.mk ?_); intro _b _hb _hbO)
                       | ((with_reducible apply StoreSt.box); (· (repeat (first | exact Upd.hd | apply Upd.tl | apply Upd.app))); (· rfl); (· rfl); (· rfl)))
              refine RoundFix.mk (j + 1) ?_ ?_ _ rfl (Wk.drop (by (try dsimp only); (try simp only [List.cons_append, List.nil_append]); (repeat (first | with_reducible exact List.Sublist.refl _ | with_reducible exact List.nil_sublist _ | with_reducible apply List.Sublist.cons_cons | with_reducible apply sub_app | apply List.Sublist.cons_cons | apply sub_app | with_reducible apply List.Sublist.cons | with_reducible apply sub_skip)))) ?_
              · omega
              · rw [hn]
                repeat' (first | exact True.intro | refine And.intro ?_ ?_ | rfl | exact congrArg (Value.int _) (by omega) | exact congrArg (fun n => Value.slice _ n _) (by (try dsimp only); omega))
              · exact hjn
          · have hn : leT l (o, n, p) i (j + 1) = acc := by rw [hst, if_neg (fun e => h1 (congrArg Prod.fst e.1))]
            repeat' (conv => whnf
                     first
                     | ((with_reducible apply LoadSt.rdg (g := frV) (s := 5)); (· rfl); (· (repeat (first | with_reducible assumption | (with_reducible apply Buf.rd; with_reducible assumption) | (with_reducible apply Rd.appL; with_reducible assumption) | (with_reducible apply Rd.appL; with_reducible apply Buf.rd; with_reducible assumption) | with_reducible apply Rd.cons | with_reducible apply Rd.appR))); (· exact fun _ => rfl); (· decide); · (first | omega | (simp only [List.length_map, List.length_append, List.length_cons, List.length_nil, List.length_take, List.length_drop, List.length_replicate, List.length_set] at *; omega)))
                     | ((with_reducible apply IdxSl.rdg (g := frV) (s := 5)); (· with_reducible assumption); (· exact fun _ => rfl); (· decide); (· rfl); (· first | with_reducible rfl | exact natL _); (· (first | omega | (simp only [List.length_map, List.length_append, List.length_cons, List.length_nil, List.length_take, List.length_drop, List.length_replicate, List.length_set] at *; omega))); · (first | omega | (simp only [List.length_map, List.length_append, List.length_cons, List.length_nil, List.length_take, List.length_drop, List.length_replicate, List.length_set] at *; omega)))
                     | (with_reducible refine NextSt.mk ?_)
                     | (with_reducible refine OnBB.tt ?_)
                     | (with_reducible refine OnBB.ff ?_)
                     | ((with_reducible apply NW.addN); (· first | with_reducible rfl | exact natL _); (· first | with_reducible rfl | exact natL _); (· omega))
                     | ((with_reducible apply Cmp.yes); · first | omega | (with_reducible assumption) | (with_reducible rfl))
                     | ((with_reducible apply Cmp.no); · first | omega | (with_reducible assumption))
                     | ((with_reducible apply LoadSt.box); · (repeat (first | exact List.Mem.head _ | with_reducible apply List.mem_append_right | with_reducible apply List.mem_cons_of_mem)))
                     | ((with_reducible refine AllocSt.mk ?_); intro _b _hb _hbO)
                     | ((with_reducible apply StoreSt.box); (· (repeat (first | exact Upd.hd | apply Upd.tl | apply Upd.app))); (· rfl); (· rfl); (· rfl)))
            refine RoundFix.mk (j + 1) ?_ ?_ _ rfl (Wk.drop (by (try dsimp only); (try simp only [List.cons_append, List.nil_append]); (repeat (first | with_reducible exact List.Sublist.refl _ | with_reducible exact List.nil_sublist _ | with_reducible apply List.Sublist.cons_cons | with_reducible apply sub_app | apply List.Sublist.cons_cons | apply sub_app | with_reducible apply List.Sublist.cons | with_reducible apply sub_skip)))) ?_
            · omega
            · rw [hn]
              repeat' (first | exact True.intro | refine And.intro ?_ ?_ | rfl | exact congrArg (Value.int _) (by omega) | exact congrArg (fun n => Value.slice _ n _) (by (try dsimp only); omega))
            · exact hjn
        · have : j = l.length := by omega
          subst this
          rw [leT_all]
          cases hls : leastB l (o, n, p) i with
          | none =>
            have hno : wholeT l o n p = none := by
              cases e : wholeT l o n p with
              | none => rfl
              | some t =>
                have := join_all _ e i hip
                rw [hls] at this; cases this
            rw [hno]
            simp only [Option.isSome_none, Option.getD_none]
            repeat' (conv => whnf
                     first
                     | (with_reducible refine NextSt.mk ?_)
                     | (with_reducible refine OnBB.tt ?_)
                     | (with_reducible refine OnBB.ff ?_)
                     | ((with_reducible apply Cmp.no); · first | omega | (with_reducible assumption))
                     | ((with_reducible apply LoadSt.boxAgg); · (repeat (first | exact List.Mem.head _ | with_reducible apply List.mem_append_right | with_reducible apply List.mem_cons_of_mem)))
                     | ((with_reducible apply StoreSt.box); (· (repeat (first | exact Upd.hd | apply Upd.tl | apply Upd.app))); (· rfl); (· rfl); (· rfl)))
            conv => whnf
            refine FinSt.ret (by (try dsimp only); (try simp only [List.cons_append, List.nil_append]); (repeat (first | with_reducible exact List.Sublist.refl _ | with_reducible exact List.nil_sublist _ | with_reducible apply List.Sublist.cons_cons | with_reducible apply sub_app | apply List.Sublist.cons_cons | apply sub_app | with_reducible apply List.Sublist.cons | with_reducible apply sub_skip))) ?_
            rfl
          | some t =>
            simp only [Option.isSome_some, Option.getD_some]
            have htl := hbi t hls
            repeat' (conv => whnf
                     first
                     | (((with_reducible apply StrAdd.mk); · omega))
                     | (with_reducible refine NextSt.mk ?_)
                     | (with_reducible refine OnBB.tt ?_)
                     | (with_reducible refine OnBB.ff ?_)
                     | ((with_reducible apply NW.addN); (· first | with_reducible rfl | exact natL _); (· first | with_reducible rfl | exact natL _); (· omega))
                     | ((with_reducible apply Cmp.no); · first | omega | (with_reducible assumption))
                     | ((with_reducible apply LoadSt.box); · (repeat (first | exact List.Mem.head _ | with_reducible apply List.mem_append_right | with_reducible apply List.mem_cons_of_mem)))
                     | ((with_reducible apply StoreSt.box); (· (repeat (first | exact Upd.hd | apply Upd.tl | apply Upd.app))); (· rfl); (· rfl); (· rfl)))
            refine RoundFix.mk (i + 1, s ++ t) ?_ ?_ _ rfl (Wk.drop (by (try dsimp only); (try simp only [List.cons_append, List.nil_append]); (repeat (first | with_reducible exact List.Sublist.refl _ | with_reducible exact List.nil_sublist _ | with_reducible apply List.Sublist.cons_cons | with_reducible apply sub_app | apply List.Sublist.cons_cons | apply sub_app | with_reducible apply List.Sublist.cons | with_reducible apply sub_skip)))) ?_
            · dsimp only; omega
            · repeat' (first | exact True.intro | refine And.intro ?_ ?_ | rfl | exact congrArg (Value.int _) (by omega) | exact congrArg (fun n => Value.slice _ n _) (by (try dsimp only); omega))
            · exact ⟨hip, by dsimp only; rw [hstep, hls]; rfl, by dsimp only; rw [List.length_append]; omega⟩
    · have hie : i = p.toNat := by omega
      subst hie
      have hw : wholeT l o n p = some s := hj
      rw [hw]
      repeat' (conv => whnf
               first
               | (with_reducible refine NextSt.mk ?_)
               | (with_reducible refine OnBB.ff ?_)
               | ((with_reducible apply Cmp.no); · first | omega | (with_reducible assumption))
               | ((with_reducible apply LoadSt.boxAgg); · (repeat (first | exact List.Mem.head _ | with_reducible apply List.mem_append_right | with_reducible apply List.mem_cons_of_mem)))
               | ((with_reducible apply StoreSt.box); (· (repeat (first | exact Upd.hd | apply Upd.tl | apply Upd.app))); (· rfl); (· rfl); (· rfl)))
      conv => whnf
      refine FinSt.ret (by (try dsimp only); (try simp only [List.cons_append, List.nil_append]); (repeat (first | with_reducible exact List.Sublist.refl _ | with_reducible exact List.nil_sublist _ | with_reducible apply List.Sublist.cons_cons | with_reducible apply sub_app | apply List.Sublist.cons_cons | apply sub_app | with_reducible apply List.Sublist.cons | with_reducible apply sub_skip))) ?_
      rfl
theorem wholeT_len {l : List Fr} (hb : ∀ f ∈ l, f.body.length ≤ 32) (o n : Int) {p : Int} (hp : 0 ≤ p ∧ p ≤ 32) {s : Str} (h : wholeT l o n p = some s) : s.length ≤ 1024 := by
  have key : ∀ (i : Nat) (t : Str), joinT (leastB l (o, n, p)) i = some t → t.length ≤ 32 * i := by
    intro i
    induction i with
    | zero => intro t ht; injection ht with ht; subst ht; exact Nat.zero_le _
    | succ i ih =>
      intro t ht
      rw [joinT] at ht
      obtain ⟨u, h1, h2⟩ := Option.bind_eq_some_iff.1 ht
      obtain ⟨b, h3, rfl⟩ := Option.map_eq_some_iff.1 h2
      have h4 := leT_len hb (o, n, p) i l.length b (by rw [leT_all]; exact h3)
      have h5 := ih u h1
      rw [List.length_append]; omega
  have := key _ _ h
  omega
def enX (o n : Int) (e : Option Str) : List Value := match e with | some s => [.int .i64 o, .int .i64 n, sV s] | none => [.int .i64 0, .int .i64 0, sV []]
theorem enR_some (o n : Int) (s : Str) : enR (some ⟨o, n, s⟩) = .tuple ⟨[.agg ⟨[.int .i64 o, .int .i64 n, sV s]⟩, .bool true]⟩ := rfl
theorem enR_none : enR none = .tuple ⟨[.agg ⟨[.int .i64 0, .int .i64 0, sV []]⟩, .bool false]⟩ := rfl
theorem f140 (l : List Fr) (o n : Int) (a : Option Addr) (c : Nat) (hl : l.length ≤ 4096) (hb : ∀ f ∈ l, f.body.length ≤ 32) (h : View) (O : Hp) (hr : Rd h O a (l.flatMap frV)) :
    GSpec Try.prog 140 [.slice a l.length c, .int .i64 o, .int .i64 n] h O (Ret O (enR (msgT l o n))) := by
  have e166 := fun (k : Nat) (hk : k < 32) O hr => f166 l o n ((k : Int) + 1) a c hl hb (by omega) h O hr
  refine GSpec.enter (fn := Try.f140) Try.func140 rfl (by kernel_rfl) ?_
  repeat' (conv => whnf
           first
           | (with_reducible refine NextSt.mk ?_)
           | ((with_reducible refine AllocSt.mk ?_); intro _b _hb _hbO)
           | ((with_reducible apply StoreSt.box); (· (repeat (first | exact Upd.hd | apply Upd.tl | apply Upd.app))); (· rfl); (· rfl); (· rfl)))
  rename_i b6 _ _
  obtain ⟨b8, hb8⟩ : ∃ x, x = _b := ⟨_, rfl⟩
  subst hb8
  refine LoopSt.fix [9, 10, 11, 12, 14, 15, 16, 17, 18, 19, 20, 21, 22, 23, 24, 25, 26, 27, 28, 29, 30, 31, 32, 33, 34, 35, 36, 37, 38] (fun (k : Nat) => [(9, .bool (bestT l o n k).isSome), (10, iN (k + 1))]) (fun k => (b8, .cells ⟨enX o n (bestT l o n k)⟩ 70 (0, 0)) :: (b6, .cells ⟨[.int .i64 0, .int .i64 0, sV []]⟩ 70 (0, 0)) :: O) (fun k => k ≤ 32) (fun k => 32 - k) (0) _ (Wk.refl _ _) (rfl) ?_ ?_ ?_
  · repeat' (first | exact True.intro | refine And.intro ?_ ?_ | rfl | exact congrArg (Value.int _) (by omega) | exact congrArg (fun n => Value.slice _ n _) (by (try dsimp only); omega))
  · exact Nat.zero_le _
  · intro k d hk
    by_cases hk32 : k < 32
    · have hst := bestT_succ l o n k
      have e166k := e166 k hk32
      cases hw : wholeT l o n ((k : Int) + 1) with
      | none =>
        rw [hw] at hst e166k
        have hn : bestT l o n (k + 1) = bestT l o n k := hst
        simp only [Option.map_none, enR_none] at e166k
        cases hbt : bestT l o n k with
        | none =>
          rw [hbt] at hn
          simp only [enX, Option.isSome_none]
          repeat' (conv => whnf
                   first
                   | (((with_reducible refine CallSt.rd (f := 166) (X := .tuple ⟨[.agg ⟨[.int .i64 0, .int .i64 0, sV []]⟩, .bool false]⟩) ?_ ?_); (· exact e166k _ (by (repeat (first | with_reducible assumption | (with_reducible apply Buf.rd; with_reducible assumption) | (with_reducible apply Rd.appL; with_reducible assumption) | (with_reducible apply Rd.appL; with_reducible apply Buf.rd; with_reducible assumption) | with_reducible apply Rd.cons | with_reducible apply Rd.appR))))))
                   | (with_reducible refine NextSt.mk ?_)
                   | (with_reducible refine OnBB.tt ?_)
                   | (with_reducible refine OnBB.ff ?_)
                   | ((with_reducible apply NW.addN); (· first | with_reducible rfl | exact natL _); (· first | with_reducible rfl | exact natL _); (· omega))
                   | ((with_reducible apply Cmp.yes); · first | omega | (with_reducible assumption) | (with_reducible rfl))
                   | ((with_reducible refine AllocSt.mk ?_); intro _b _hb _hbO)
                   | ((with_reducible apply StoreSt.box); (· (repeat (first | exact Upd.hd | apply Upd.tl | apply Upd.app))); (· rfl); (· rfl); (· rfl)))
          refine RoundFix.mk (k + 1) ?_ ?_ _ rfl (by rw [hn]; exact Wk.drop (by (try dsimp only); (try simp only [List.cons_append, List.nil_append]); (repeat (first | with_reducible exact List.Sublist.refl _ | with_reducible exact List.nil_sublist _ | with_reducible apply List.Sublist.cons_cons | with_reducible apply sub_app | apply List.Sublist.cons_cons | apply sub_app | with_reducible apply List.Sublist.cons | with_reducible apply sub_skip)))) ?_
          · omega
          · rw [hn]
            repeat' (first | exact True.intro | refine And.intro ?_ ?_ | rfl | exact congrArg (Value.int _) (by omega) | exact congrArg (fun n => Value.slice _ n _) (by (try dsimp only); omega))
          · exact hk32
        | some w =>
          rw [hbt] at hn
          simp only [enX, Option.isSome_some]
          repeat' (conv => whnf
                   first
                   | (((with_reducible refine CallSt.rd (f := 166) (X := .tuple ⟨[.agg ⟨[.int .i64 0, .int .i64 0, sV []]⟩, .bool false]⟩) ?_ ?_); (· exact e166k _ (by (repeat (first | with_reducible assumption | (with_reducible apply Buf.rd; with_reducible assumption) | (with_reducible apply Rd.appL; with_reducible assumption) | (with_reducible apply Rd.appL; with_reducible apply Buf.rd; with_reducible assumption) | with_reducible apply Rd.cons | with_reducible apply Rd.appR))))))
                   | (with_reducible refine NextSt.mk ?_)
                   | (with_reducible refine OnBB.tt ?_)
                   | (with_reducible refine OnBB.ff ?_)
                   | ((with_reducible apply NW.addN); (· first | with_reducible rfl | exact natL _); (· first | with_reducible rfl | exact natL _); (· omega))
                   | ((with_reducible apply Cmp.yes); · first | omega | (with_reducible assumption) | (with_reducible rfl))
                   | ((with_reducible refine AllocSt.mk ?_); intro _b _hb _hbO)
                   | ((with_reducible apply StoreSt.box); (· (repeat (first | exact Upd.hd | apply Upd.tl | apply Upd.app))); (· rfl); (· rfl); (· rfl)))
          refine RoundFix.mk (k + 1) ?_ ?_ _ rfl (by rw [hn]; exact Wk.drop (by (try dsimp only); (try simp only [List.cons_append, List.nil_append]); (repeat (first | with_reducible exact List.Sublist.refl _ | with_reducible exact List.nil_sublist _ | with_reducible apply List.Sublist.cons_cons | with_reducible apply sub_app | apply List.Sublist.cons_cons | apply sub_app | with_reducible apply List.Sublist.cons | with_reducible apply sub_skip)))) ?_
          · omega
          · rw [hn]
            repeat' (first | exact True.intro | refine And.intro ?_ ?_ | rfl | exact congrArg (Value.int _) (by omega) | exact congrArg (fun n => Value.slice _ n _) (by (try dsimp only); omega))
          · exact hk32
      | some x =>
        have hxl := wholeT_len hb o n (by omega) hw
        rw [hw] at hst e166k
        simp only [Option.map_some, enR_some] at e166k
        cases hbt : bestT l o n k with
        | none =>
          rw [hbt] at hst
          have hn : bestT l o n (k + 1) = some x := hst
          simp only [enX, Option.isSome_none]
          repeat' (conv => whnf
                   first
                   | (((with_reducible refine CallSt.rd (f := 166) (X := .tuple ⟨[.agg ⟨[.int .i64 o, .int .i64 n, sV x]⟩, .bool true]⟩) ?_ ?_); (· exact e166k _ (by (repeat (first | with_reducible assumption | (with_reducible apply Buf.rd; with_reducible assumption) | (with_reducible apply Rd.appL; with_reducible assumption) | (with_reducible apply Rd.appL; with_reducible apply Buf.rd; with_reducible assumption) | with_reducible apply Rd.cons | with_reducible apply Rd.appR))))))
                   | (with_reducible refine NextSt.mk ?_)
                   | (with_reducible refine OnBB.tt ?_)
                   | (with_reducible refine OnBB.ff ?_)
                   | ((with_reducible apply NW.addN); (· first | with_reducible rfl | exact natL _); (· first | with_reducible rfl | exact natL _); (· omega))
                   | ((with_reducible apply Cmp.yes); · first | omega | (with_reducible assumption) | (with_reducible rfl))
                   | ((with_reducible apply LoadSt.boxAgg); · (repeat (first | exact List.Mem.head _ | with_reducible apply List.mem_append_right | with_reducible apply List.mem_cons_of_mem)))
                   | ((with_reducible refine AllocSt.mk ?_); intro _b _hb _hbO)
                   | ((with_reducible apply StoreSt.box); (· (repeat (first | exact Upd.hd | apply Upd.tl | apply Upd.app))); (· rfl); (· rfl); (· rfl)))
          refine RoundFix.mk (k + 1) ?_ ?_ _ rfl (by rw [hn]; exact Wk.drop (by (try dsimp only); (try simp only [List.cons_append, List.nil_append]); (repeat (first | with_reducible exact List.Sublist.refl _ | with_reducible exact List.nil_sublist _ | with_reducible apply List.Sublist.cons_cons | with_reducible apply sub_app | apply List.Sublist.cons_cons | apply sub_app | with_reducible apply List.Sublist.cons | with_reducible apply sub_skip)))) ?_
          · omega
          · rw [hn]
            repeat' (first | exact True.intro | refine And.intro ?_ ?_ | rfl | exact congrArg (Value.int _) (by omega) | exact congrArg (fun n => Value.slice _ n _) (by (try dsimp only); omega))
          · exact hk32
        | some w =>
          rw [hbt] at hst
          simp only [less1] at hst
          simp only [enX, Option.isSome_some]
          by_cases hbw : Op.bytesLess x w = true
          · have hn : bestT l o n (k + 1) = some x := by rw [hst, if_pos hbw]
            repeat' (conv => whnf
                     first
                     | (((with_reducible refine CallSt.rd (f := 166) (X := .tuple ⟨[.agg ⟨[.int .i64 o, .int .i64 n, sV x]⟩, .bool true]⟩) ?_ ?_); (· exact e166k _ (by (repeat (first | with_reducible assumption | (with_reducible apply Buf.rd; with_reducible assumption) | (with_reducible apply Rd.appL; with_reducible assumption) | (with_reducible apply Rd.appL; with_reducible apply Buf.rd; with_reducible assumption) | with_reducible apply Rd.cons | with_reducible apply Rd.appR))))))
                     | (with_reducible refine NextSt.mk ?_)
                     | (with_reducible refine OnBB.tt ?_)
                     | (with_reducible refine OnBB.ff ?_)
                     | ((with_reducible apply NW.addN); (· first | with_reducible rfl | exact natL _); (· first | with_reducible rfl | exact natL _); (· omega))
                     | ((with_reducible apply Cmp.yes); · first | omega | (with_reducible assumption) | (with_reducible rfl))
                     | ((with_reducible apply LoadSt.box); · (repeat (first | exact List.Mem.head _ | with_reducible apply List.mem_append_right | with_reducible apply List.mem_cons_of_mem)))
                     | ((with_reducible apply LoadSt.boxAgg); · (repeat (first | exact List.Mem.head _ | with_reducible apply List.mem_append_right | with_reducible apply List.mem_cons_of_mem)))
                     | ((with_reducible refine AllocSt.mk ?_); intro _b _hb _hbO)
                     | ((with_reducible apply StoreSt.box); (· (repeat (first | exact Upd.hd | apply Upd.tl | apply Upd.app))); (· rfl); (· rfl); (· rfl)))
            refine RoundFix.mk (k + 1) ?_ ?_ _ rfl (by rw [hn]; exact Wk.drop (by (try dsimp only); (try simp only [List.cons_append, List.nil_append]); (repeat (first | with_reducible exact List.Sublist.refl _ | with_reducible exact List.nil_sublist _ | with_reducible apply List.Sublist.cons_cons | with_reducible apply sub_app | apply List.Sublist.cons_cons | apply sub_app | with_reducible apply List.Sublist.cons | with_reducible apply sub_skip)))) ?_
            · omega
            · rw [hn]
              repeat' (first | exact True.intro | refine And.intro ?_ ?_ | rfl | exact congrArg (Value.int _) (by omega) | exact congrArg (fun n => Value.slice _ n _) (by (try dsimp only); omega))
            · exact hk32
          · have hn : bestT l o n (k + 1) = some w := by rw [hst, if_neg hbw]
            repeat' (conv => whnf
                     first
                     | (((with_reducible refine CallSt.rd (f := 166) (X := .tuple ⟨[.agg ⟨[.int .i64 o, .int .i64 n, sV x]⟩, .bool true]⟩) ?_ ?_); (· exact e166k _ (by (repeat (first | with_reducible assumption | (with_reducible apply Buf.rd; with_reducible assumption) | (with_reducible apply Rd.appL; with_reducible assumption) | (with_reducible apply Rd.appL; with_reducible apply Buf.rd; with_reducible assumption) | with_reducible apply Rd.cons | with_reducible apply Rd.appR))))))
                     | (with_reducible refine NextSt.mk ?_)
                     | (with_reducible refine OnBB.tt ?_)
                     | (with_reducible refine OnBB.ff ?_)
                     | ((with_reducible apply NW.addN); (· first | with_reducible rfl | exact natL _); (· first | with_reducible rfl | exact natL _); (· omega))
                     | ((with_reducible apply Cmp.yes); · first | omega | (with_reducible assumption) | (with_reducible rfl))
                     | ((with_reducible apply Cmp.no); · first | omega | (with_reducible assumption))
                     | ((with_reducible apply LoadSt.box); · (repeat (first | exact List.Mem.head _ | with_reducible apply List.mem_append_right | with_reducible apply List.mem_cons_of_mem)))
                     | ((with_reducible refine AllocSt.mk ?_); intro _b _hb _hbO)
                     | ((with_reducible apply StoreSt.box); (· (repeat (first | exact Upd.hd | apply Upd.tl | apply Upd.app))); (· rfl); (· rfl); (· rfl)))
            refine RoundFix.mk (k + 1) ?_ ?_ _ rfl (by rw [hn]; exact Wk.drop (by (try dsimp only); (try simp only [List.cons_append, List.nil_append]); (repeat (first | with_reducible exact List.Sublist.refl _ | with_reducible exact List.nil_sublist _ | with_reducible apply List.Sublist.cons_cons | with_reducible apply sub_app | apply List.Sublist.cons_cons | apply sub_app | with_reducible apply List.Sublist.cons | with_reducible apply sub_skip)))) ?_
            · omega
            · rw [hn]
              repeat' (first | exact True.intro | refine And.intro ?_ ?_ | rfl | exact congrArg (Value.int _) (by omega) | exact congrArg (fun n => Value.slice _ n _) (by (try dsimp only); omega))
            · exact hk32
    · have : k = 32 := by omega
      subst this
      unfold msgT
      cases hbt : bestT l o n 32 with
      | none =>
        simp only [enX, Option.isSome_none, Option.map_none, enR_none]
        repeat' (conv => whnf
                 first
                 | (with_reducible refine NextSt.mk ?_)
                 | (with_reducible refine OnBB.ff ?_)
                 | ((with_reducible apply Cmp.no); · first | omega | (with_reducible assumption))
                 | ((with_reducible apply LoadSt.boxAgg); · (repeat (first | exact List.Mem.head _ | with_reducible apply List.mem_append_right | with_reducible apply List.mem_cons_of_mem)))
                 | ((with_reducible apply StoreSt.box); (· (repeat (first | exact Upd.hd | apply Upd.tl | apply Upd.app))); (· rfl); (· rfl); (· rfl)))
        conv => whnf
        refine FinSt.ret (by (try dsimp only); (try simp only [List.cons_append, List.nil_append]); (repeat (first | with_reducible exact List.Sublist.refl _ | with_reducible exact List.nil_sublist _ | with_reducible apply List.Sublist.cons_cons | with_reducible apply sub_app | apply List.Sublist.cons_cons | apply sub_app | with_reducible apply List.Sublist.cons | with_reducible apply sub_skip))) ?_
        rfl
      | some w =>
        simp only [enX, Option.isSome_some, Option.map_some, enR_some]
        repeat' (conv => whnf
                 first
                 | (with_reducible refine NextSt.mk ?_)
                 | (with_reducible refine OnBB.ff ?_)
                 | ((with_reducible apply Cmp.no); · first | omega | (with_reducible assumption))
                 | ((with_reducible apply LoadSt.boxAgg); · (repeat (first | exact List.Mem.head _ | with_reducible apply List.mem_append_right | with_reducible apply List.mem_cons_of_mem)))
                 | ((with_reducible apply StoreSt.box); (· (repeat (first | exact Upd.hd | apply Upd.tl | apply Upd.app))); (· rfl); (· rfl); (· rfl)))
        conv => whnf
        refine FinSt.ret (by (try dsimp only); (try simp only [List.cons_append, List.nil_append]); (repeat (first | with_reducible exact List.Sublist.refl _ | with_reducible exact List.nil_sublist _ | with_reducible apply List.Sublist.cons_cons | with_reducible apply sub_app | apply List.Sublist.cons_cons | apply sub_app | with_reducible apply List.Sublist.cons | with_reducible apply sub_skip))) ?_
        rfl
end Go.Proofs.Ytlbmlimaobkhpaa
/- The reference: Gather. -/
namespace Go.Proofs.Ytlbmlimaobkhpaa
open Go Go.Gv
set_option maxRecDepth 100000
set_option maxHeartbeats 8000000
set_option linter.unusedSimpArgs false
set_option linter.unusedVariables false
/-- What is said of a list of frames. -/
def gE (l : List Fr) : Int := if l.length ≤ 4096 then (if ∀ f ∈ l, frOk f then 0 else 90) else 2
def gL (l : List Fr) : List En := if gE l = 0 then gatR l else []
theorem gE_no {l : List Fr} (h4 : l.length ≤ 4096) {i : Nat} (hi : i < l.length) (h : ¬ frOk (l.getD i default)) : gE l = 90 := by
  unfold gE
  rw [if_pos h4, if_neg]
  intro e
  exact h (e _ (by rw [List.getD_eq_getElem?_getD, List.getElem?_eq_getElem hi]; exact List.getElem_mem _))
theorem gE_ok {l : List Fr} (h4 : l.length ≤ 4096) (h : ∀ i < l.length, frOk (l.getD i default)) : gE l = 0 := by
  unfold gE
  rw [if_pos h4, if_pos]
  intro f hf
  obtain ⟨i, hi, rfl⟩ := List.mem_iff_getElem.1 hf
  have := h i hi
  rwa [List.getD_eq_getElem?_getD, List.getElem?_eq_getElem hi] at this
theorem f139 (l : List Fr) (a : Option Addr) (c : Nat) (hl : l.length ≤ 9223372036854775807) (hb : ∀ i < l.length, (l.getD i default).body.length < 1000000) (h : View) (O : Hp) (hr : Rd h O a (l.flatMap frV)) :
    GSpec Try.prog 139 [.slice a l.length c] h O (Ret O (.int .i64 (gE l))) := by
  by_cases h4 : l.length ≤ 4096
  · refine GSpec.enter (fn := Try.f139) Try.func139 rfl (by kernel_rfl) ?_
    repeat' (conv => whnf
             first
             | (with_reducible refine NextSt.mk ?_)
             | (with_reducible refine OnBB.ff ?_)
             | ((with_reducible apply Cmp.no); · first | omega | (with_reducible assumption)))
    refine LoopSt.fix [2, 3, 7, 8, 9, 10, 11, 12, 13, 14, 15, 16, 17, 18] (fun (i : Nat) => [(3, iN i)]) (fun _ => _) (fun i => i ≤ l.length ∧ ∀ j < i, frOk (l.getD j default)) (fun i => l.length - i) (0) _ (Wk.refl _ _) (rfl) ?_ ?_ ?_
    · repeat' (first | exact True.intro | refine And.intro ?_ ?_ | rfl | exact congrArg (Value.int _) (by omega) | exact congrArg (fun n => Value.slice _ n _) (by (try dsimp only); omega))
    · exact ⟨Nat.zero_le _, fun j hj => by omega⟩
    · rintro i d ⟨hi, hall⟩
      by_cases hil : i < l.length
      · have e23 := fun O => f23 (l.getD i default) (hb i hil) h O
        unfold frV at e23
        by_cases hok : frOk (l.getD i default)
        · rw [show chkF (l.getD i default) = 0 from if_pos hok] at e23
          repeat' (conv => whnf
                   first
                   | (((with_reducible refine CallSt.rd (f := 23) (X := .int .i64 0) ?_ ?_); (· exact e23 _)))
                   | ((with_reducible apply LoadSt.rdg (g := frV) (s := 5)); (· rfl); (· (repeat (first | with_reducible assumption | (with_reducible apply Buf.rd; with_reducible assumption) | (with_reducible apply Rd.appL; with_reducible assumption) | (with_reducible apply Rd.appL; with_reducible apply Buf.rd; with_reducible assumption) | with_reducible apply Rd.cons | with_reducible apply Rd.appR))); (· exact fun _ => rfl); (· decide); · (first | omega | (simp only [List.length_map, List.length_append, List.length_cons, List.length_nil, List.length_take, List.length_drop, List.length_replicate, List.length_set] at *; omega)))
                   | ((with_reducible apply IdxSl.rdg (g := frV) (s := 5)); (· with_reducible assumption); (· exact fun _ => rfl); (· decide); (· rfl); (· first | with_reducible rfl | exact natL _); (· (first | omega | (simp only [List.length_map, List.length_append, List.length_cons, List.length_nil, List.length_take, List.length_drop, List.length_replicate, List.length_set] at *; omega))); · (first | omega | (simp only [List.length_map, List.length_append, List.length_cons, List.length_nil, List.length_take, List.length_drop, List.length_replicate, List.length_set] at *; omega)))
                   | (with_reducible refine NextSt.mk ?_)
                   | (with_reducible refine OnBB.tt ?_)
                   | (with_reducible refine OnBB.ff ?_)
                   | ((with_reducible apply NW.addN); (· first | with_reducible rfl | exact natL _); (· first | with_reducible rfl | exact natL _); (· omega))
                   | ((with_reducible apply Cmp.yes); · first | omega | (with_reducible assumption) | (with_reducible rfl))
                   | ((with_reducible apply Cmp.no); · first | omega | (with_reducible assumption)))
          refine RoundFix.mk (i + 1) ?_ ?_ _ rfl (Wk.drop (by (try dsimp only); (try simp only [List.cons_append, List.nil_append]); (repeat (first | with_reducible exact List.Sublist.refl _ | with_reducible exact List.nil_sublist _ | with_reducible apply List.Sublist.cons_cons | with_reducible apply sub_app | apply List.Sublist.cons_cons | apply sub_app | with_reducible apply List.Sublist.cons | with_reducible apply sub_skip)))) ?_
          · omega
          · repeat' (first | exact True.intro | refine And.intro ?_ ?_ | rfl | exact congrArg (Value.int _) (by omega) | exact congrArg (fun n => Value.slice _ n _) (by (try dsimp only); omega))
          · refine ⟨hil, fun j hj => ?_⟩
            by_cases e : j = i
            · rw [e]; exact hok
            · exact hall j (by omega)
        · rw [show chkF (l.getD i default) = 90 from if_neg hok] at e23
          rw [gE_no h4 hil hok]
          repeat' (conv => whnf
                   first
                   | (((with_reducible refine CallSt.rd (f := 23) (X := .int .i64 90) ?_ ?_); (· exact e23 _)))
                   | ((with_reducible apply LoadSt.rdg (g := frV) (s := 5)); (· rfl); (· (repeat (first | with_reducible assumption | (with_reducible apply Buf.rd; with_reducible assumption) | (with_reducible apply Rd.appL; with_reducible assumption) | (with_reducible apply Rd.appL; with_reducible apply Buf.rd; with_reducible assumption) | with_reducible apply Rd.cons | with_reducible apply Rd.appR))); (· exact fun _ => rfl); (· decide); · (first | omega | (simp only [List.length_map, List.length_append, List.length_cons, List.length_nil, List.length_take, List.length_drop, List.length_replicate, List.length_set] at *; omega)))
                   | ((with_reducible apply IdxSl.rdg (g := frV) (s := 5)); (· with_reducible assumption); (· exact fun _ => rfl); (· decide); (· rfl); (· first | with_reducible rfl | exact natL _); (· (first | omega | (simp only [List.length_map, List.length_append, List.length_cons, List.length_nil, List.length_take, List.length_drop, List.length_replicate, List.length_set] at *; omega))); · (first | omega | (simp only [List.length_map, List.length_append, List.length_cons, List.length_nil, List.length_take, List.length_drop, List.length_replicate, List.length_set] at *; omega)))
                   | (with_reducible refine NextSt.mk ?_)
                   | (with_reducible refine OnBB.tt ?_)
                   | ((with_reducible apply Cmp.yes); · first | omega | (with_reducible assumption) | (with_reducible rfl)))
          conv => whnf
          refine FinSt.ret (by (try dsimp only); (try simp only [List.cons_append, List.nil_append]); (repeat (first | with_reducible exact List.Sublist.refl _ | with_reducible exact List.nil_sublist _ | with_reducible apply List.Sublist.cons_cons | with_reducible apply sub_app | apply List.Sublist.cons_cons | apply sub_app | with_reducible apply List.Sublist.cons | with_reducible apply sub_skip))) ?_
          rfl
      · rw [gE_ok h4 fun j hj => hall j (by omega)]
        repeat' (conv => whnf
                 first
                 | (with_reducible refine NextSt.mk ?_)
                 | (with_reducible refine OnBB.ff ?_)
                 | ((with_reducible apply Cmp.no); · first | omega | (with_reducible assumption)))
        conv => whnf
        refine FinSt.ret (by (try dsimp only); (try simp only [List.cons_append, List.nil_append]); (repeat (first | with_reducible exact List.Sublist.refl _ | with_reducible exact List.nil_sublist _ | with_reducible apply List.Sublist.cons_cons | with_reducible apply sub_app | apply List.Sublist.cons_cons | apply sub_app | with_reducible apply List.Sublist.cons | with_reducible apply sub_skip))) ?_
        rfl
  · rw [show gE l = 2 from if_neg h4]
    refine GSpec.enter (fn := Try.f139) Try.func139 rfl (by kernel_rfl) ?_
    repeat' (conv => whnf
             first
             | (with_reducible refine NextSt.mk ?_)
             | (with_reducible refine OnBB.tt ?_)
             | ((with_reducible apply Cmp.yes); · first | omega | (with_reducible assumption) | (with_reducible rfl)))
    conv => whnf
    refine FinSt.ret (by (try dsimp only); (try simp only [List.cons_append, List.nil_append]); (repeat (first | with_reducible exact List.Sublist.refl _ | with_reducible exact List.nil_sublist _ | with_reducible apply List.Sublist.cons_cons | with_reducible apply sub_app | apply List.Sublist.cons_cons | apply sub_app | with_reducible apply List.Sublist.cons | with_reducible apply sub_skip))) ?_
    rfl
theorem least_none {l : List Fr} {k : Ky} {p : Int} (h : ∀ f ∈ l, kyF f ≠ k) : leastB l k p = none := by
  unfold leastB
  induction l with
  | nil => rfl
  | cons f l ih =>
    rw [List.foldl_cons, if_neg (fun e => h f List.mem_cons_self e.1)]
    exact ih fun g hg => h g (List.mem_cons_of_mem _ hg)
theorem msg_none {l : List Fr} {o n : Int} (h : ∀ f ∈ l, ¬ (f.office = o ∧ f.no = n)) : msgT l o n = none := by
  cases e : bestT l o n 32 with
  | none => unfold msgT; rw [e]; rfl
  | some b =>
    exfalso
    obtain ⟨⟨i, hi, hw⟩, _⟩ := (bestT_spec l o n 32).1 b e
    have h0 := join_all _ hw 0 (by omega)
    rw [least_none (k := (o, n, (i : Int) + 1)) fun f hf hk => h f hf ⟨congrArg (fun x : Ky => x.1) hk, congrArg (fun x : Ky => x.2.1) hk⟩] at h0
    cases h0
def anyT (l : List Fr) (o n : Int) (j : Nat) : Bool := (l.take j).any fun f => decide (f.office = o ∧ f.no = n)
theorem anyT_succ {l : List Fr} {o n : Int} {j : Nat} (h : j < l.length) : anyT l o n (j + 1) = (anyT l o n j || decide ((l.getD j default).office = o ∧ (l.getD j default).no = n)) := by
  unfold anyT
  rw [List.take_add_one, List.any_append, List.getElem?_eq_getElem h, List.getD_eq_getElem?_getD, List.getElem?_eq_getElem h]
  simp
def gRow (l : List Fr) (o k : Nat) : List En := (List.range k).flatMap fun (n : Nat) => (msgT l o n).toList
def gTo (l : List Fr) (o : Nat) : List En := (List.range o).flatMap fun (o : Nat) => gRow l o 64
theorem gRow_succ (l : List Fr) (o k : Nat) : gRow l o (k + 1) = gRow l o k ++ (msgT l o k).toList := by
  unfold gRow
  rw [List.range_succ, List.flatMap_append]; simp
theorem gTo_succ (l : List Fr) (o : Nat) : gTo l (o + 1) = gTo l o ++ gRow l o 64 := by
  unfold gTo
  rw [List.range_succ, List.flatMap_append]; simp
theorem gRow_len (l : List Fr) (o : Nat) : ∀ k, (gRow l o k).length ≤ k
  | 0 => Nat.le_refl _
  | k + 1 => by
    rw [gRow_succ, List.length_append]
    have := gRow_len l o k
    cases msgT l o k <;> simp <;> omega
theorem gTo_len (l : List Fr) : ∀ o, (gTo l o).length ≤ 64 * o
  | 0 => Nat.le_refl _
  | o + 1 => by
    rw [gTo_succ, List.length_append]
    have := gTo_len l o
    have := gRow_len l o 64
    omega
def gAt (l : List Fr) (o : Nat) : Nat → List En
  | 0 => gTo l o
  | n + 1 => gAt l o n ++ (msgT l o n).toList
theorem gAt_eq (l : List Fr) (o : Nat) : ∀ n, gAt l o n = gTo l o ++ gRow l o n
  | 0 => (List.append_nil _).symm
  | n + 1 => by rw [gAt, gAt_eq l o n, gRow_succ, List.append_assoc]
theorem f79 (l : List Fr) (a : Option Addr) (c : Nat) (hl : l.length ≤ 9223372036854775807) (hb : ∀ i < l.length, (l.getD i default).body.length < 1000000) (h : View) (O : Hp) (hr : Rd h O a (l.flatMap frV)) :
    GSpec Try.prog 79 [.slice a l.length c] h O (New O fun v H => ∃ x, v = .tuple ⟨[x, .int .i64 (gE l)]⟩ ∧ LsR enV (gL l) x H) := by
  have e139 := fun O hr => f139 l a c hl hb h O hr
  by_cases hg : gE l = 0
  · have hgL : gL l = gatR l := if_pos hg
    have h4 : l.length ≤ 4096 := by
      unfold gE at hg
      split at hg
      · assumption
      · cases hg
    have hok : ∀ f ∈ l, frOk f := by
      unfold gE at hg
      rw [if_pos h4] at hg
      split at hg
      · assumption
      · cases hg
    have hb32 : ∀ f ∈ l, f.body.length ≤ 32 := fun f hf => (hok f hf).2.2.2.2.2.2.2.2.1
    have e140 := fun (o n : Nat) O hr => f140 l o n a c h4 hb32 h O hr
    rw [hg] at e139
    rw [hgL, hg]
    refine GSpec.enter (fn := Try.f79) Try.func79 rfl (by kernel_rfl) ?_
    repeat' (conv => whnf
             first
             | (((with_reducible refine CallSt.rd (f := 139) (X := .int .i64 0) ?_ ?_); (· exact e139 _ (by (repeat (first | with_reducible assumption | (with_reducible apply Buf.rd; with_reducible assumption) | (with_reducible apply Rd.appL; with_reducible assumption) | (with_reducible apply Rd.appL; with_reducible apply Buf.rd; with_reducible assumption) | with_reducible apply Rd.cons | with_reducible apply Rd.appR))))))
             | (with_reducible refine NextSt.mk ?_)
             | (with_reducible refine OnBB.ff ?_)
             | ((with_reducible apply Cmp.no); · first | omega | (with_reducible assumption)))
    refine LoopSt.fix [5, 6, 7, 8, 9, 10, 11, 17, 18, 19, 20, 21, 22, 23, 24, 25, 26, 27, 28, 29, 30, 31, 32, 33, 34, 35, 36, 37, 38, 39, 40, 41, 42, 43, 44, 45, 46, 47, 48, 49, 50, 51, 52, 53, 54, 55, 56, 57, 58, 59, 60, 61, 62] (fun ((o, B) : Nat × Buf) => [(5, .slice B.a (gTo l o).length B.cap), (6, iN o)]) (fun (o, B) => B.hp 70 ((gTo l o).flatMap enV) ++ O) (fun (o, B) => o ≤ 8 ∧ B.ok 3 ((gTo l o).flatMap enV) (gTo l o).length) (fun (o, B) => 8 - o) ((0, Buf.nil)) _ (Wk.refl _ _) (rfl) ?_ ?_ ?_
    · repeat' (first | exact True.intro | refine And.intro ?_ ?_ | rfl | exact congrArg (Value.int _) (by omega) | exact congrArg (fun n => Value.slice _ n _) (by (try dsimp only); omega))
    · exact ⟨Nat.zero_le _, Buf.nil_ok 3⟩
    · rintro ⟨o, B⟩ d ⟨ho, hB⟩
      dsimp only at ho hB ⊢
      by_cases ho8 : o < 8
      · have hso := gTo_succ l o
        have hto := gTo_len l o
        repeat' (conv => whnf
                 first
                 | (with_reducible refine NextSt.mk ?_)
                 | (with_reducible refine OnBB.tt ?_)
                 | ((with_reducible apply Cmp.yes); · first | omega | (with_reducible assumption) | (with_reducible rfl)))
        refine LoopSt.fix [5, 7, 8, 9, 10, 11, 21, 22, 23, 24, 25, 26, 27, 28, 29, 30, 31, 32, 33, 34, 35, 36, 37, 38, 39, 40, 41, 42, 43, 44, 45, 46, 47, 48, 49, 50, 51, 52, 53, 54, 55, 56, 57, 58, 59, 60, 61, 62] (fun ((n, B) : Nat × Buf) => [(5, .slice B.a (gAt l o n).length B.cap), (7, iN n)]) (fun (n, B) => B.hp 70 ((gAt l o n).flatMap enV) ++ O) (fun (n, B) => n ≤ 64 ∧ B.ok 3 ((gAt l o n).flatMap enV) (gAt l o n).length) (fun (n, B) => 64 - n) ((0, B)) _ (Wk.refl _ _) (rfl) ?_ ?_ ?_
        · repeat' (first | exact True.intro | refine And.intro ?_ ?_ | rfl | exact congrArg (Value.int _) (by omega) | exact congrArg (fun n => Value.slice _ n _) (by (try dsimp only); omega))
        · exact ⟨Nat.zero_le _, hB⟩
        · rintro ⟨n, C⟩ d2 ⟨hn, hC⟩
          dsimp only at hn hC ⊢
          have hro := gRow_len l o n
          have hln : (gAt l o n).length ≤ 1000 := by rw [gAt_eq, List.length_append]; omega
          by_cases hn64 : n < 64
          · have hsn : gAt l o (n + 1) = gAt l o n ++ (msgT l o n).toList := rfl
            generalize hA : gAt l o n = A at *
            repeat' (conv => whnf
                     first
                     | (with_reducible refine NextSt.mk ?_)
                     | (with_reducible refine OnBB.tt ?_)
                     | ((with_reducible apply Cmp.yes); · first | omega | (with_reducible assumption) | (with_reducible rfl)))
            refine LoopSt.fix [8, 9, 25, 26, 27, 28, 29, 30, 31, 32, 33, 34, 35, 36, 37, 38, 39, 40, 41, 42, 43, 44, 45, 46, 47, 48, 49] (fun (j : Nat) => [(8, .bool (anyT l o n j)), (9, iN j)]) (fun _ => _) (fun j => j ≤ l.length) (fun j => l.length - j) (0) _ (Wk.refl _ _) (rfl) ?_ ?_ ?_
            · repeat' (first | exact True.intro | refine And.intro ?_ ?_ | rfl | exact congrArg (Value.int _) (by omega) | exact congrArg (fun n => Value.slice _ n _) (by (try dsimp only); omega))
            · exact Nat.zero_le _
            · intro j d3 hj
              by_cases hjl : j < l.length
              · have hst := anyT_succ (o := o) (n := n) hjl
                cases hany : anyT l o n j with
                | true =>
                  rw [hany, Bool.true_or] at hst
                  repeat' (conv => whnf
                           first
                           | (with_reducible refine NextSt.mk ?_)
                           | (with_reducible refine OnBB.tt ?_)
                           | ((with_reducible apply NW.addN); (· first | with_reducible rfl | exact natL _); (· first | with_reducible rfl | exact natL _); (· omega))
                           | ((with_reducible apply Cmp.yes); · first | omega | (with_reducible assumption) | (with_reducible rfl)))
                  refine RoundFix.mk (j + 1) ?_ ?_ _ rfl (Wk.refl _ _) ?_
                  · omega
                  · rw [hst]
                    repeat' (first | exact True.intro | refine And.intro ?_ ?_ | rfl | exact congrArg (Value.int _) (by omega) | exact congrArg (fun n => Value.slice _ n _) (by (try dsimp only); omega))
                  · exact hjl
                | false =>
                  rw [hany, Bool.false_or] at hst
                  by_cases h1 : (l.getD j default).office = o
                  · by_cases h2 : (l.getD j default).no = n
                    · rw [decide_eq_true ⟨h1, h2⟩] at hst
                      repeat' (conv => whnf
                               first
                               | (((with_reducible apply LoadSt.rdf (g := frV) (s := 5)); (· (repeat (first | with_reducible assumption | (with_reducible apply Buf.rd; with_reducible assumption) | (with_reducible apply Rd.appL; with_reducible assumption) | (with_reducible apply Rd.appL; with_reducible apply Buf.rd; with_reducible assumption) | with_reducible apply Rd.cons | with_reducible apply Rd.appR))); (· exact fun _ => rfl); (· (first | omega | (simp only [List.length_map, List.length_append, List.length_cons, List.length_nil, List.length_take, List.length_drop, List.length_replicate, List.length_set] at *; omega))); (· decide)))
                               | ((with_reducible apply IdxSl.rdg (g := frV) (s := 5)); (· with_reducible assumption); (· exact fun _ => rfl); (· decide); (· rfl); (· first | with_reducible rfl | exact natL _); (· (first | omega | (simp only [List.length_map, List.length_append, List.length_cons, List.length_nil, List.length_take, List.length_drop, List.length_replicate, List.length_set] at *; omega))); · (first | omega | (simp only [List.length_map, List.length_append, List.length_cons, List.length_nil, List.length_take, List.length_drop, List.length_replicate, List.length_set] at *; omega)))
                               | (with_reducible refine NextSt.mk ?_)
                               | (with_reducible refine OnBB.tt ?_)
                               | (with_reducible refine OnBB.ff ?_)
                               | ((with_reducible apply NW.addN); (· first | with_reducible rfl | exact natL _); (· first | with_reducible rfl | exact natL _); (· omega))
                               | ((with_reducible apply Cmp.yes); · first | omega | (with_reducible assumption) | (with_reducible rfl)))
                      refine RoundFix.mk (j + 1) ?_ ?_ _ rfl (Wk.refl _ _) ?_
                      · omega
                      · rw [hst]
                        repeat' (first | exact True.intro | refine And.intro ?_ ?_ | rfl | exact congrArg (Value.int _) (by omega) | exact congrArg (fun n => Value.slice _ n _) (by (try dsimp only); omega))
                      · exact hjl
                    · rw [decide_eq_false (fun e => h2 e.2)] at hst
                      repeat' (conv => whnf
                               first
                               | (((with_reducible apply LoadSt.rdf (g := frV) (s := 5)); (· (repeat (first | with_reducible assumption | (with_reducible apply Buf.rd; with_reducible assumption) | (with_reducible apply Rd.appL; with_reducible assumption) | (with_reducible apply Rd.appL; with_reducible apply Buf.rd; with_reducible assumption) | with_reducible apply Rd.cons | with_reducible apply Rd.appR))); (· exact fun _ => rfl); (· (first | omega | (simp only [List.length_map, List.length_append, List.length_cons, List.length_nil, List.length_take, List.length_drop, List.length_replicate, List.length_set] at *; omega))); (· decide)))
                               | ((with_reducible apply IdxSl.rdg (g := frV) (s := 5)); (· with_reducible assumption); (· exact fun _ => rfl); (· decide); (· rfl); (· first | with_reducible rfl | exact natL _); (· (first | omega | (simp only [List.length_map, List.length_append, List.length_cons, List.length_nil, List.length_take, List.length_drop, List.length_replicate, List.length_set] at *; omega))); · (first | omega | (simp only [List.length_map, List.length_append, List.length_cons, List.length_nil, List.length_take, List.length_drop, List.length_replicate, List.length_set] at *; omega)))
                               | (with_reducible refine NextSt.mk ?_)
                               | (with_reducible refine OnBB.tt ?_)
                               | (with_reducible refine OnBB.ff ?_)
                               | ((with_reducible apply NW.addN); (· first | with_reducible rfl | exact natL _); (· first | with_reducible rfl | exact natL _); (· omega))
                               | ((with_reducible apply Cmp.yes); · first | omega | (with_reducible assumption) | (with_reducible rfl))
                               | ((with_reducible apply Cmp.no); · first | omega | (with_reducible assumption)))
                      refine RoundFix.mk (j + 1) ?_ ?_ _ rfl (Wk.refl _ _) ?_
                      · omega
                      · rw [hst]
                        repeat' (first | exact True.intro | refine And.intro ?_ ?_ | rfl | exact congrArg (Value.int _) (by omega) | exact congrArg (fun n => Value.slice _ n _) (by (try dsimp only); omega))
                      · exact hjl
                  · rw [decide_eq_false (fun e => h1 e.1)] at hst
                    repeat' (conv => whnf
                             first
                             | (((with_reducible apply LoadSt.rdf (g := frV) (s := 5)); (· (repeat (first | with_reducible assumption | (with_reducible apply Buf.rd; with_reducible assumption) | (with_reducible apply Rd.appL; with_reducible assumption) | (with_reducible apply Rd.appL; with_reducible apply Buf.rd; with_reducible assumption) | with_reducible apply Rd.cons | with_reducible apply Rd.appR))); (· exact fun _ => rfl); (· (first | omega | (simp only [List.length_map, List.length_append, List.length_cons, List.length_nil, List.length_take, List.length_drop, List.length_replicate, List.length_set] at *; omega))); (· decide)))
                             | ((with_reducible apply IdxSl.rdg (g := frV) (s := 5)); (· with_reducible assumption); (· exact fun _ => rfl); (· decide); (· rfl); (· first | with_reducible rfl | exact natL _); (· (first | omega | (simp only [List.length_map, List.length_append, List.length_cons, List.length_nil, List.length_take, List.length_drop, List.length_replicate, List.length_set] at *; omega))); · (first | omega | (simp only [List.length_map, List.length_append, List.length_cons, List.length_nil, List.length_take, List.length_drop, List.length_replicate, List.length_set] at *; omega)))
                             | (with_reducible refine NextSt.mk ?_)
                             | (with_reducible refine OnBB.tt ?_)
                             | (with_reducible refine OnBB.ff ?_)
                             | ((with_reducible apply NW.addN); (· first | with_reducible rfl | exact natL _); (· first | with_reducible rfl | exact natL _); (· omega))
                             | ((with_reducible apply Cmp.yes); · first | omega | (with_reducible assumption) | (with_reducible rfl))
                             | ((with_reducible apply Cmp.no); · first | omega | (with_reducible assumption)))
                    refine RoundFix.mk (j + 1) ?_ ?_ _ rfl (Wk.refl _ _) ?_
                    · omega
                    · rw [hst]
                      repeat' (first | exact True.intro | refine And.intro ?_ ?_ | rfl | exact congrArg (Value.int _) (by omega) | exact congrArg (fun n => Value.slice _ n _) (by (try dsimp only); omega))
                    · exact hjl
              · have hje : j = l.length := by omega
                subst hje
                have e140n := e140 o n
                cases hm : msgT l o n with
                | none =>
                  rw [hm] at e140n hsn
                  rw [enR_none] at e140n
                  have hsn2 : gAt l o (n + 1) = A := by rw [hsn]; exact List.append_nil _
                  cases hany : anyT l o n l.length with
                  | true =>
                    repeat' (conv => whnf
                             first
                             | (((with_reducible refine CallSt.rd (f := 140) (X := .tuple ⟨[.agg ⟨[.int .i64 0, .int .i64 0, sV []]⟩, .bool false]⟩) ?_ ?_); (· exact e140n _ (by (repeat (first | with_reducible assumption | (with_reducible apply Buf.rd; with_reducible assumption) | (with_reducible apply Rd.appL; with_reducible assumption) | (with_reducible apply Rd.appL; with_reducible apply Buf.rd; with_reducible assumption) | with_reducible apply Rd.cons | with_reducible apply Rd.appR))))))
                             | (with_reducible refine NextSt.mk ?_)
                             | (with_reducible refine OnBB.tt ?_)
                             | (with_reducible refine OnBB.ff ?_)
                             | ((with_reducible apply NW.addN); (· first | with_reducible rfl | exact natL _); (· first | with_reducible rfl | exact natL _); (· omega))
                             | ((with_reducible apply Cmp.no); · first | omega | (with_reducible assumption))
                             | ((with_reducible refine AllocSt.mk ?_); intro _b _hb _hbO)
                             | ((with_reducible apply StoreSt.box); (· (repeat (first | exact Upd.hd | apply Upd.tl | apply Upd.app))); (· rfl); (· rfl); (· rfl)))
                    refine RoundFix.mk (n + 1, C) ?_ ?_ _ rfl (by dsimp only; rw [hsn2]; exact Wk.drop (by (try dsimp only); (try simp only [List.cons_append, List.nil_append]); (repeat (first | with_reducible exact List.Sublist.refl _ | with_reducible exact List.nil_sublist _ | with_reducible apply List.Sublist.cons_cons | with_reducible apply sub_app | apply List.Sublist.cons_cons | apply sub_app | with_reducible apply List.Sublist.cons | with_reducible apply sub_skip)))) ?_
                    · dsimp only; omega
                    · dsimp only
                      rw [hsn2]
                      repeat' (first | exact True.intro | refine And.intro ?_ ?_ | rfl | exact congrArg (Value.int _) (by omega) | exact congrArg (fun n => Value.slice _ n _) (by (try dsimp only); omega))
                    · exact ⟨hn64, by dsimp only; rw [hsn2]; exact hC⟩
                  | false =>
                    repeat' (conv => whnf
                             first
                             | (with_reducible refine NextSt.mk ?_)
                             | (with_reducible refine OnBB.ff ?_)
                             | ((with_reducible apply NW.addN); (· first | with_reducible rfl | exact natL _); (· first | with_reducible rfl | exact natL _); (· omega))
                             | ((with_reducible apply Cmp.no); · first | omega | (with_reducible assumption)))
                    refine RoundFix.mk (n + 1, C) ?_ ?_ _ rfl (by dsimp only; rw [hsn2]; exact Wk.refl _ _) ?_
                    · dsimp only; omega
                    · dsimp only
                      rw [hsn2]
                      repeat' (first | exact True.intro | refine And.intro ?_ ?_ | rfl | exact congrArg (Value.int _) (by omega) | exact congrArg (fun n => Value.slice _ n _) (by (try dsimp only); omega))
                    · exact ⟨hn64, by dsimp only; rw [hsn2]; exact hC⟩
                | some e =>
                  obtain ⟨w, hw, rfl⟩ := Option.map_eq_some_iff.1 hm
                  rw [hm] at e140n hsn
                  rw [enR_some] at e140n
                  have hsn2 : gAt l o (n + 1) = A ++ [⟨o, n, w⟩] := hsn
                  have hany : anyT l o n l.length = true := by
                    cases e : anyT l o n l.length with
                    | true => rfl
                    | false =>
                      exfalso
                      have hno : msgT l o n = none := msg_none fun f hf hc => by
                        unfold anyT at e
                        rw [List.take_length, List.any_eq_false] at e
                        exact e f hf (decide_eq_true hc)
                      rw [hno] at hm; cases hm
                  rw [hany]
                  repeat' (conv => whnf
                           first
                           | (((with_reducible refine CallSt.rd (f := 140) (X := .tuple ⟨[.agg ⟨[.int .i64 o, .int .i64 n, sV w]⟩, .bool true]⟩) ?_ ?_); (· exact e140n _ (by (repeat (first | with_reducible assumption | (with_reducible apply Buf.rd; with_reducible assumption) | (with_reducible apply Rd.appL; with_reducible assumption) | (with_reducible apply Rd.appL; with_reducible apply Buf.rd; with_reducible assumption) | with_reducible apply Rd.cons | with_reducible apply Rd.appR))))))
                           | (((apply AppSt.litm (g := enV) (x := ⟨o, n, w⟩) (xs := A) (s := 3) (z := .agg ⟨[.int .i64 0, .int .i64 0, sV []]⟩)); (· (repeat (first | with_reducible exact Loc.hd | with_reducible exact Loc.last | with_reducible exact Loc.one | with_reducible apply Loc.tl | with_reducible apply Loc.skip))); (· exact hC); (· (repeat (first | exact List.Mem.head _ | with_reducible apply List.mem_append_right | with_reducible apply List.mem_cons_of_mem))); (· rfl); (· rfl); (· rfl); (· rfl); (· rfl); (· rfl); (· rfl); (· (show _ * 32 ≤ _; omega)); (· omega); intro C1 hC1))
                           | (with_reducible refine NextSt.mk ?_)
                           | (with_reducible refine OnBB.tt ?_)
                           | (with_reducible refine OnBB.ff ?_)
                           | ((with_reducible apply NW.addN); (· first | with_reducible rfl | exact natL _); (· first | with_reducible rfl | exact natL _); (· omega))
                           | ((with_reducible apply Cmp.no); · first | omega | (with_reducible assumption))
                           | ((with_reducible apply LoadSt.boxAgg); · (repeat (first | exact List.Mem.head _ | with_reducible apply List.mem_append_right | with_reducible apply List.mem_cons_of_mem)))
                           | ((with_reducible refine AllocSt.mk ?_); intro _b _hb _hbO)
                           | ((with_reducible apply StoreSt.box); (· (repeat (first | exact Upd.hd | apply Upd.tl | apply Upd.app))); (· rfl); (· rfl); (· rfl)))
                  refine RoundFix.mk (n + 1, C1) ?_ ?_ _ rfl (by dsimp only; rw [hsn2]; exact Wk.drop (by (try dsimp only); (try simp only [List.cons_append, List.nil_append]); (repeat (first | with_reducible exact List.Sublist.refl _ | with_reducible exact List.nil_sublist _ | with_reducible apply List.Sublist.cons_cons | with_reducible apply sub_app | apply List.Sublist.cons_cons | apply sub_app | with_reducible apply List.Sublist.cons | with_reducible apply sub_skip)))) ?_
                  · dsimp only; omega
                  · dsimp only
                    rw [hsn2]
                    simp only [List.length_append, List.length_cons, List.length_nil]
                    repeat' (first | exact True.intro | refine And.intro ?_ ?_ | rfl | exact congrArg (Value.int _) (by omega) | exact congrArg (fun n => Value.slice _ n _) (by (try dsimp only); omega))
                  · refine ⟨hn64, ?_⟩
                    dsimp only
                    rw [hsn2]
                    simp only [List.length_append, List.length_cons, List.length_nil]
                    exact hC1
          · have hne : n = 64 := by omega
            subst hne
            have hnx : gTo l (o + 1) = gAt l o 64 := by rw [gTo_succ, gAt_eq]
            repeat' (conv => whnf
                     first
                     | (with_reducible refine NextSt.mk ?_)
                     | (with_reducible refine OnBB.ff ?_)
                     | ((with_reducible apply NW.addN); (· first | with_reducible rfl | exact natL _); (· first | with_reducible rfl | exact natL _); (· omega))
                     | ((with_reducible apply Cmp.no); · first | omega | (with_reducible assumption)))
            refine RoundFix.mk (o + 1, C) ?_ ?_ _ rfl (by dsimp only; rw [hnx]; exact Wk.refl _ _) ?_
            · dsimp only; omega
            · dsimp only
              rw [hnx]
              repeat' (first | exact True.intro | refine And.intro ?_ ?_ | rfl | exact congrArg (Value.int _) (by omega) | exact congrArg (fun n => Value.slice _ n _) (by (try dsimp only); omega))
            · exact ⟨ho8, by dsimp only; rw [hnx]; exact hC⟩
      · have : o = 8 := by omega
        subst this
        repeat' (conv => whnf
                 first
                 | (with_reducible refine NextSt.mk ?_)
                 | (with_reducible refine OnBB.ff ?_)
                 | ((with_reducible apply Cmp.no); · first | omega | (with_reducible assumption)))
        conv => whnf
        refine FinSt.new (H := B.hp 70 ((gTo l 8).flatMap enV)) (by (try dsimp only); (try simp only [List.cons_append, List.nil_append]); (repeat (first | with_reducible exact List.Sublist.refl _ | with_reducible exact List.nil_sublist _ | with_reducible apply List.Sublist.cons_cons | with_reducible apply sub_app | apply List.Sublist.cons_cons | apply sub_app | with_reducible apply List.Sublist.cons | with_reducible apply sub_skip))) ?_
        exact ⟨_, rfl, _, _, rfl, Buf.rd hB, by show (gTo l 8).length ≤ B.cap; rcases hB.2 with ⟨_, _, e⟩ | ⟨_, e, _⟩ <;> omega⟩
  · have hgL : gL l = [] := if_neg hg
    rw [hgL]
    generalize gE l = e at *
    refine GSpec.enter (fn := Try.f79) Try.func79 rfl (by kernel_rfl) ?_
    repeat' (conv => whnf
             first
             | (((with_reducible refine CallSt.rd (f := 139) (X := .int .i64 e) ?_ ?_); (· exact e139 _ (by (repeat (first | with_reducible assumption | (with_reducible apply Buf.rd; with_reducible assumption) | (with_reducible apply Rd.appL; with_reducible assumption) | (with_reducible apply Rd.appL; with_reducible apply Buf.rd; with_reducible assumption) | with_reducible apply Rd.cons | with_reducible apply Rd.appR))))))
             | (with_reducible refine NextSt.mk ?_)
             | (with_reducible refine OnBB.tt ?_)
             | ((with_reducible apply Cmp.yes); · first | omega | (with_reducible assumption) | (with_reducible rfl)))
    conv => whnf
    refine FinSt.new (H := []) (by (try dsimp only); (try simp only [List.cons_append, List.nil_append]); (repeat (first | with_reducible exact List.Sublist.refl _ | with_reducible exact List.nil_sublist _ | with_reducible apply List.Sublist.cons_cons | with_reducible apply sub_app | apply List.Sublist.cons_cons | apply sub_app | with_reducible apply List.Sublist.cons | with_reducible apply sub_skip))) ?_
    exact ⟨_, rfl, none, 0, rfl, Rd.nil, Nat.le_refl _⟩
end Go.Proofs.Ytlbmlimaobkhpaa
