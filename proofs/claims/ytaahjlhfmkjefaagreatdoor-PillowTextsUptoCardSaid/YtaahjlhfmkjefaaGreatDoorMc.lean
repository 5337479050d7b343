/- Functions of the program: loads, what remains. -/
import Derived.Test.YtaahjlhfmkjefaaGreatDoorMb
import Derived.Test.YtaahjlhfmkjefaaGreatDoorGd
set_option linter.unusedVariables false
set_option linter.unusedSimpArgs false
set_option linter.unusedSectionVars false
/- Functions of the program and of the reference: the ends of loads in a case. -/
namespace Go.Proofs.YtaahjlhfmkjefaaGreatDoor
open Go Go.Gv
set_option maxRecDepth 100000
set_option maxHeartbeats 8000000
set_option linter.unusedSimpArgs false
set_option linter.unusedVariables false
def endsO (p : Pl) (w : List Sp) (l : List Int) : List Sp := if alive p w l then endsV p w l else []
def EndsR (p : Pl) (w : List Sp) (l : List Int) (v : Value) (H : Hp) : Prop := ∃ a c, v = .tuple ⟨[.slice a (endsO p w l).length c, .bool (decide (alive p w l))]⟩ ∧ RdH H a ((endsO p w l).flatMap spV) ∧ (endsO p w l).length ≤ c
theorem EndsR.no {p : Pl} {w : List Sp} {l : List Int} (h : ¬ alive p w l) : EndsR p w l (.tuple ⟨[.slice none 0 0, .bool false]⟩) [] := by
  refine ⟨none, 0, ?_, ?_, ?_⟩
  · rw [decide_eq_false h, show endsO p w l = [] from if_neg h]; rfl
  · rw [show endsO p w l = [] from if_neg h]
    exact Rd.nil
  · rw [show endsO p w l = [] from if_neg h]; exact Nat.le_refl 0
theorem EndsR.yes {p : Pl} {w : List Sp} {l : List Int} {b : Nat} {ty : TypeId} {fr : Nat × Nat} (h : alive p w l) : EndsR p w l (.tuple ⟨[.slice (some ⟨b, 0, none⟩) l.length l.length, .bool true]⟩) [(b, .cells ⟨(endsV p w l).flatMap spV⟩ ty fr)] := by
  have e : endsO p w l = endsV p w l := if_pos h
  refine ⟨some ⟨b, 0, none⟩, l.length, ?_, ?_, ?_⟩
  · rw [decide_eq_true h, e, endsV_len]
  · rw [e]
    exact Rd.own0 (List.Mem.head _)
  · rw [e, endsV_len]; exact Nat.le_refl _
/-- The slice, filled so far: from the front; from behind. -/
def fwdL (p : Pl) (w : List Sp) (l : List Int) (i : Nat) : List Sp := (List.range l.length).map fun j => if j < i then fwd p w l j else ⟨0, 0⟩
def bwdL (p : Pl) (w : List Sp) (l : List Int) (i : Nat) : List Sp := (List.range l.length).map fun j => if i ≤ j then endI p w l j else fwd p w l j
theorem range_getD {α : Type} [Inhabited α] {n i : Nat} {f : Nat → α} (h : i < n) : ((List.range n).map f).getD i default = f i := by
  rw [List.getD_eq_getElem?_getD, List.getElem?_map, List.getElem?_range h]; rfl
theorem range_set {α : Type} {n i : Nat} {f g : Nat → α} {x : α} (hx : g i = x) (hg : ∀ j < n, j ≠ i → f j = g j) : ((List.range n).map f).set i x = (List.range n).map g := by
  apply List.ext_getElem?
  intro k
  rw [List.getElem?_set]
  by_cases hk : k < n
  · by_cases e : i = k
    · subst e
      rw [if_pos rfl, if_pos (by simpa using hk), List.getElem?_map, List.getElem?_range hk, ← hx]; rfl
    · rw [if_neg e, List.getElem?_map, List.getElem?_map, List.getElem?_range hk]
      exact congrArg some (hg k hk (Ne.symm e))
  · have hn (f : Nat → α) : ((List.range n).map f)[k]? = none := List.getElem?_eq_none (by simpa using hk)
    rw [hn, hn]
    by_cases e : i = k
    · rw [if_pos e, if_neg (by simpa using by omega)]
    · rw [if_neg e]
theorem fwdL_len (p : Pl) (w : List Sp) (l : List Int) (i : Nat) : (fwdL p w l i).length = l.length := by simp [fwdL]
theorem bwdL_len (p : Pl) (w : List Sp) (l : List Int) (i : Nat) : (bwdL p w l i).length = l.length := by simp [bwdL]
theorem fwdL_zero (p : Pl) (w : List Sp) (l : List Int) : (List.replicate l.length (⟨0, 0⟩ : Sp)) = fwdL p w l 0 := by
  unfold fwdL
  rw [show (fun j => if j < 0 then fwd p w l j else (⟨0, 0⟩ : Sp)) = fun _ => ⟨0, 0⟩ from funext fun j => if_neg (by omega), List.map_const', List.length_range]
theorem fwdL_set {p : Pl} {w : List Sp} {l : List Int} {i : Nat} : (fwdL p w l i).set i (fwd p w l i) = fwdL p w l (i + 1) :=
  range_set (if_pos (by omega)) fun j hj hne => by
    by_cases h : j < i
    · rw [if_pos h, if_pos (by omega)]
    · rw [if_neg h, if_neg (by omega)]
theorem fwdL_get {p : Pl} {w : List Sp} {l : List Int} {i j : Nat} (hj : j < l.length) (h : j < i) : (fwdL p w l i).getD j default = fwd p w l j := (range_getD hj).trans (if_pos h)
theorem bwdL_start {p : Pl} {w : List Sp} {l : List Int} : fwdL p w l l.length = bwdL p w l (l.length - 1) := by
  refine List.map_congr_left fun j hj => ?_
  have hj := List.mem_range.1 hj
  rw [if_pos hj]
  by_cases h : l.length - 1 ≤ j
  · rw [if_pos h, endI_last (by omega)]
  · rw [if_neg h]
theorem bwdL_zero {p : Pl} {w : List Sp} {l : List Int} : bwdL p w l 0 = endsV p w l := by
  refine List.map_congr_left fun j hj => ?_
  rw [if_pos (Nat.zero_le _)]; rfl
theorem bwdL_set {p : Pl} {w : List Sp} {l : List Int} {i : Nat} : (bwdL p w l (i + 1)).set i (endI p w l i) = bwdL p w l i :=
  range_set (if_pos (Nat.le_refl _)) fun j hj hne => by
    by_cases h : i ≤ j
    · rw [if_pos h, if_pos (by omega)]
    · rw [if_neg h, if_neg (by omega)]
theorem bwdL_get {p : Pl} {w : List Sp} {l : List Int} {i : Nat} (hi : i < l.length) : (bwdL p w l (i + 1)).getD i default = fwd p w l i := (range_getD hi).trans (if_neg (by omega))
theorem bwdL_get1 {p : Pl} {w : List Sp} {l : List Int} {i : Nat} (hi : i + 1 < l.length) : (bwdL p w l (i + 1)).getD (i + 1) default = endI p w l (i + 1) := (range_getD hi).trans (if_pos (Nat.le_refl _))
theorem set_get {l : List Sp} {i : Nat} {x : Sp} (h : i < l.length) : (l.set i x).getD i default = x := by
  rw [List.getD_eq_getElem?_getD, List.getElem?_set_self h]; rfl
theorem set_get_ne {l : List Sp} {i j : Nat} {x : Sp} (h : i ≠ j) : (l.set i x).getD j default = l.getD j default := by
  rw [List.getD_eq_getElem?_getD, List.getElem?_set_ne h, ← List.getD_eq_getElem?_getD]
theorem fwd_in {p : Pl} {w : List Sp} {l : List Int} {i : Nat} (hp : pOk p) (hi : i < p.log.length) (hf : full (fwd p w l i)) : 0 ≤ (fwd p w l i).lo ∧ (fwd p w l i).lo ≤ (fwd p w l i).hi ∧ (fwd p w l i).hi ≤ 65536 := by
  have hin := loads_in p i (l.getD i 0) (hp.2 i hi).2.1 hp.1.2.2.1.1 hp.1.2.2.2.1.1
  unfold full at hf
  cases i with
  | zero => exact hin
  | succ i => simp only [fwd, meetS] at *; omega
/-- A count that goes down, below naught too. -/
def dn (n : Nat) : Int := (n : Int) - 2
theorem dn_at (n : Nat) : dn (n + 2) = (n : Int) := by unfold dn; omega
theorem dn_step (n : Nat) : (n : Int) - 1 = dn (n + 1) := by unfold dn; omega
theorem dn_low {n : Nat} (h : n < 2) : dn n < 0 := by unfold dn; omega
theorem end_in {p : Pl} {w : List Sp} {l : List Int} {i : Nat} (hp : pOk p) (hw : wOk p w) (ha : alive p w l) (hc : l.length = p.log.length) (hi : i < l.length) : 0 ≤ (endI p w l i).lo ∧ (endI p w l i).lo ≤ (endI p w l i).hi ∧ (endI p w l i).hi ≤ 65536 := by
  have hf := end_full (fun j => (wOk_at hw j).1) ha (l.length - 1 - i) i (by omega)
  have hin := fwd_in hp (by omega) (ha i hi)
  by_cases h : i + 1 < l.length
  · rw [endI_step h] at *
    simp only [full, meetS] at *
    omega
  · rw [endI_last (by omega)] at *
    exact hin
theorem f63 (p : Pl) (w : List Sp) (l : List Int) (a a2 a3 : Option Addr) (c c2 c3 : Nat) (hp : pOk p) (hw : wOk p w) (hc : l.length = p.log.length) (h : View) (O : Hp) (hr : Rd h O a (p.log.flatMap shV)) (hr2 : Rd h O a2 (w.flatMap spV)) (hr3 : Rd h O a3 (l.map zI)) :
    GSpec Tryz.prog 30 [.agg ⟨plV p a c ++ [.slice a2 w.length c2]⟩, .slice a3 l.length c3] h O (New O (EndsR p w l)) := by
  have hl := hp.1.2.2.2.2.2.2
  have e72 := fun i hi h O hr => f72 p a c i (l.getD i 0) hp hi h O hr
  have hwl := hw.1
  show GSpec Tryz.prog 30 [.agg ⟨[.int .i64 p.no, .int .i64 p.cell, .int .i64 p.noise, .int .i64 p.slab, .int .i64 p.jump, .int .i64 p.faults, .slice a p.log.length c, .slice a2 w.length c2]⟩, _] h O _
  refine GSpec.enter (fn := Tryz.f30) Tryz.func30 rfl (by kernel_rfl) ?_
  repeat' (conv => whnf
           first
           | (((with_reducible apply MakeSt.flat (g := spV) (d := ⟨0, 0⟩)); (· rfl); (· rfl); (· first | with_reducible rfl | exact natL _); (· first | with_reducible rfl | exact natL _); (· (show 16 * _ ≤ _; omega)); (· omega); intro _b _hb _hbO))
           | (with_reducible refine NextSt.mk ?_)
           | ((with_reducible refine AllocSt.mk ?_); intro _b _hb _hbO))
  rename_i bx _ _
  refine LoopSt.fix [4, 5, 7, 8, 15, 16, 17, 18, 19, 20, 21, 22, 23, 24, 25, 26, 27, 28, 29, 30, 31, 32, 33, 34, 35, 36, 37, 38, 39, 40, 41, 42, 43, 44, 45, 46, 47, 48, 49, 50, 51, 52, 53, 54, 55] (fun (i : Nat) => [(15, iN i)]) (fun i => (_b, .cells ⟨(fwdL p w l i).flatMap spV⟩ 50 (0, 0)) :: (bx, .cells ⟨[.int .i64 p.no, .int .i64 p.cell, .int .i64 p.noise, .int .i64 p.slab, .int .i64 p.jump, .int .i64 p.faults, .slice a p.log.length c, .slice a2 w.length c2]⟩ 81 (0, 0)) :: O) (fun i => i ≤ l.length ∧ ∀ j < i, full (fwd p w l j)) (fun i => l.length - i) (0) _ (Wk.refl _ _) ((by rw [fwdL_zero p w l]; rfl)) ?_ ?_ ?_
  · repeat' (first | exact True.intro | refine And.intro ?_ ?_ | rfl | exact congrArg (Value.int _) (by omega) | exact congrArg (fun n => Value.slice _ n _) (by (try dsimp only); omega))
  · exact ⟨Nat.zero_le _, fun j hj => by omega⟩
  · rintro i d ⟨hi, hall⟩
    have hlen := fwdL_len p w l i
    by_cases hil : i < l.length
    · have e72i := e72 i (by omega)
      have hin := loads_in p i (l.getD i 0) (hp.2 i (by omega)).2.1 hp.1.2.2.1.1 hp.1.2.2.2.1.1
      generalize hx : loadsI p i (l.getD i 0) = x at e72i hin
      have hz : (fwdL p w l (i + 1)).getD i default = fwd p w l i := fwdL_get hil (by omega)
      have hlen1 := fwdL_len p w l (i + 1)
      have hset := fwdL_set (p := p) (w := w) (l := l) (i := i)
      have hnext : full (fwd p w l i) → ∀ j < i + 1, full (fwd p w l j) := fun hc j hj => by
        by_cases e : j = i
        · rw [e]; exact hc
        · exact hall j (by omega)
      rcases Nat.eq_zero_or_pos i with h0 | h0
      · have hfw : fwd p w l i = x := by rw [h0] at hx ⊢; exact hx
        rw [hfw] at hset hz
        have hf : full (fwd p w l i) := by rw [hfw]; exact hin.2.1
        repeat' (conv => whnf
                 first
                 | (((with_reducible refine CallSt.rd (f := 46) (X := .agg ⟨spV x⟩) ?_ ?_); (· exact e72i _ _ (Rd.cons (Rd.cons hr)))))
                 | ((with_reducible apply CallSt.decN (f := 49)); (· (apply GSpec.cast (sp := f91 _ _ _ _); (· (repeat' (first | with_reducible rfl | refine congrArg₂ List.cons ?_ ?_ | exact iN_lit _ | rfl))); all_goals (first | with_reducible assumption | omega | ((repeat (first | with_reducible assumption | with_reducible apply xor_lt | with_reducible apply mul_lt | with_reducible exact pw_lt _ | with_reducible exact inv_lt _ | omega)); done) | ((repeat (first | with_reducible assumption | (with_reducible apply Buf.rd; with_reducible assumption) | (with_reducible apply Rd.appL; with_reducible assumption) | (with_reducible apply Rd.appL; with_reducible apply Buf.rd; with_reducible assumption) | (with_reducible apply Rd.ofH; with_reducible assumption) | (with_reducible apply Rd.ofH1; with_reducible assumption) | with_reducible apply Rd.cons | with_reducible apply Rd.appR)); done) | decide))); · omega)
                 | ((with_reducible apply IdxSl.own 2); (· rfl); (· first | with_reducible rfl | exact natL _); (· (first | omega | (simp only [List.length_map, List.length_append, List.length_cons, List.length_nil, List.length_take, List.length_drop, List.length_replicate, List.length_set] at *; omega))))
                 | ((with_reducible apply LoadSt.owna (g := spV) (s := 2)); (· rfl); (· (repeat (first | exact List.Mem.head _ | with_reducible apply List.mem_append_right | with_reducible apply List.mem_cons_of_mem))); (· exact fun _ => rfl); (· decide); (· (first | omega | (simp only [List.length_map, List.length_append, List.length_cons, List.length_nil, List.length_take, List.length_drop, List.length_replicate, List.length_set] at *; omega))); (· first | with_reducible assumption | rfl))
                 | ((with_reducible apply StoreSt.flat (g := spV) (s := 2)); (· (repeat (first | exact Upd.hd | apply Upd.tl | apply Upd.app))); (· exact fun _ => rfl); (· rfl); (· rfl); (· (first | omega | (simp only [List.length_map, List.length_append, List.length_cons, List.length_nil, List.length_take, List.length_drop, List.length_replicate, List.length_set] at *; omega))); (· first | with_reducible assumption | rfl))
                 | ((with_reducible apply LoadSt.rdZ); (· (repeat (first | with_reducible assumption | (with_reducible apply Buf.rd; with_reducible assumption) | (with_reducible apply Rd.appL; with_reducible assumption) | (with_reducible apply Rd.appL; with_reducible apply Buf.rd; with_reducible assumption) | (with_reducible apply Rd.ofH; with_reducible assumption) | (with_reducible apply Rd.ofH1; with_reducible assumption) | with_reducible apply Rd.cons | with_reducible apply Rd.appR))); · (first | omega | (simp only [List.length_map, List.length_append, List.length_cons, List.length_nil, List.length_take, List.length_drop, List.length_replicate, List.length_set] at *; omega)))
                 | (with_reducible refine NextSt.mk ?_)
                 | (with_reducible refine OnBB.tt ?_)
                 | (with_reducible refine OnBB.ff ?_)
                 | ((with_reducible apply NW.addN); (· first | with_reducible rfl | exact natL _); (· first | with_reducible rfl | exact natL _); (· omega))
                 | ((with_reducible apply Cmp.yes); · first | omega | (with_reducible assumption) | (with_reducible rfl))
                 | ((with_reducible apply Cmp.no); · first | omega | (with_reducible assumption))
                 | ((with_reducible apply LoadSt.boxAgg); · (repeat (first | exact List.Mem.head _ | with_reducible apply List.mem_append_right | with_reducible apply List.mem_cons_of_mem)))
                 | ((with_reducible apply IdxSl.rd1); (· with_reducible assumption); (· rfl); (· first | with_reducible rfl | exact natL _); (· (first | omega | (simp only [List.length_map, List.length_append, List.length_cons, List.length_nil, List.length_take, List.length_drop, List.length_replicate, List.length_set] at *; omega))); · (first | omega | (simp only [List.length_map, List.length_append, List.length_cons, List.length_nil, List.length_take, List.length_drop, List.length_replicate, List.length_set] at *; omega))))
        refine RoundFix.mk (i + 1) ?_ ?_ _ rfl (Wk.drop (by (try dsimp only); (try simp only [List.cons_append, List.nil_append]); (repeat (first | with_reducible exact List.Sublist.refl _ | with_reducible exact List.nil_sublist _ | with_reducible apply List.Sublist.cons_cons | with_reducible apply sub_app | apply List.Sublist.cons_cons | apply sub_app | with_reducible apply List.Sublist.cons | with_reducible apply sub_skip)))) ?_
        · omega
        · repeat' (first | exact True.intro | refine And.intro ?_ ?_ | rfl | exact congrArg (Value.int _) (by omega) | exact congrArg (fun n => Value.slice _ n _) (by (try dsimp only); omega))
        · exact ⟨hil, hnext hf⟩
      · obtain ⟨ys, hys⟩ : ∃ ys, (fwdL p w l i).set i x = ys := ⟨_, rfl⟩
        have hyl : ys.length = l.length := by rw [← hys, List.length_set, hlen]
        have hy0 : ys.getD i default = x := by rw [← hys]; exact set_get (by omega)
        have hy1 : ys.getD (i - 1) default = fwd p w l (i - 1) := by
          rw [← hys, set_get_ne (by omega)]; exact fwdL_get (by omega) (by omega)
        have hfw : fwd p w l i = meetS x (addS (fwd p w l (i - 1)) (w.getD (i - 1) default)) := by
          obtain ⟨j, rfl⟩ : ∃ j, i = j + 1 := ⟨i - 1, by omega⟩
          rw [← hx]; rfl
        have hzs : ys.set i (meetS x (addS (fwd p w l (i - 1)) (w.getD (i - 1) default))) = fwdL p w l (i + 1) := by
          rw [← hys, List.set_set, ← hfw]; exact hset
        have hb := fwd_in hp (by omega) (hall (i - 1) (by omega))
        have hwa := wOk_at hw (i - 1)
        clear hset hfw hlen1
        have hlen1 := fwdL_len p w l (i + 1)
        by_cases hf : full (fwd p w l i)
        · have hf' : (fwd p w l i).lo ≤ (fwd p w l i).hi := hf
          repeat' (conv => whnf
                   first
                   | (((with_reducible refine CallSt.rd (f := 46) (X := .agg ⟨spV x⟩) ?_ ?_); (· exact e72i _ _ (Rd.cons (Rd.cons hr)))))
                   | (((with_reducible apply StoreSt.flat (g := spV) (s := 2) (x := meetS x (addS (fwd p w l (i - 1)) (w.getD (i - 1) default)))); (· (repeat (first | exact Upd.hd | apply Upd.tl | apply Upd.app))); (· exact fun _ => rfl); (· rfl); (· rfl); (· omega); (· with_reducible assumption)))
                   | ((with_reducible refine DrawSt.walk [0, 1, 2, 3, 4, 5, 6, 7, 8, 9, 10, 11, 12, 13, 14, 15, 16, 17, 18, 19, 20] mixed ?_ ?_); · decide +kernel)
                   | ((with_reducible apply CallG.rd (f := 47)); · (apply GSpec.cast (sp := f81 _ _ _ _ _ _); (· (repeat' (first | with_reducible rfl | refine congrArg₂ List.cons ?_ ?_ | exact iN_lit _ | rfl))); all_goals (first | with_reducible assumption | omega | ((repeat (first | with_reducible assumption | with_reducible apply xor_lt | with_reducible apply mul_lt | with_reducible exact pw_lt _ | with_reducible exact inv_lt _ | omega)); done) | ((repeat (first | with_reducible assumption | (with_reducible apply Buf.rd; with_reducible assumption) | (with_reducible apply Rd.appL; with_reducible assumption) | (with_reducible apply Rd.appL; with_reducible apply Buf.rd; with_reducible assumption) | (with_reducible apply Rd.ofH; with_reducible assumption) | (with_reducible apply Rd.ofH1; with_reducible assumption) | with_reducible apply Rd.cons | with_reducible apply Rd.appR)); done) | decide)))
                   | ((with_reducible apply CallG.rd (f := 48)); · (apply GSpec.cast (sp := f82 _ _ _ _ ?_ ?_ _ _); (· (repeat' (first | with_reducible rfl | refine congrArg₂ List.cons ?_ ?_ | exact iN_lit _ | rfl))); all_goals (first | with_reducible assumption | omega | ((repeat (first | with_reducible assumption | with_reducible apply xor_lt | with_reducible apply mul_lt | with_reducible exact pw_lt _ | with_reducible exact inv_lt _ | omega)); done) | ((repeat (first | with_reducible assumption | (with_reducible apply Buf.rd; with_reducible assumption) | (with_reducible apply Rd.appL; with_reducible assumption) | (with_reducible apply Rd.appL; with_reducible apply Buf.rd; with_reducible assumption) | (with_reducible apply Rd.ofH; with_reducible assumption) | (with_reducible apply Rd.ofH1; with_reducible assumption) | with_reducible apply Rd.cons | with_reducible apply Rd.appR)); done) | decide)))
                   | ((with_reducible apply CallSt.decN (f := 49)); (· (apply GSpec.cast (sp := f91 _ _ _ _); (· (repeat' (first | with_reducible rfl | refine congrArg₂ List.cons ?_ ?_ | exact iN_lit _ | rfl))); all_goals (first | with_reducible assumption | omega | ((repeat (first | with_reducible assumption | with_reducible apply xor_lt | with_reducible apply mul_lt | with_reducible exact pw_lt _ | with_reducible exact inv_lt _ | omega)); done) | ((repeat (first | with_reducible assumption | (with_reducible apply Buf.rd; with_reducible assumption) | (with_reducible apply Rd.appL; with_reducible assumption) | (with_reducible apply Rd.appL; with_reducible apply Buf.rd; with_reducible assumption) | (with_reducible apply Rd.ofH; with_reducible assumption) | (with_reducible apply Rd.ofH1; with_reducible assumption) | with_reducible apply Rd.cons | with_reducible apply Rd.appR)); done) | decide))); · omega)
                   | ((with_reducible apply LoadSt.rdg (g := spV) (s := 2)); (· rfl); (· (repeat (first | with_reducible assumption | (with_reducible apply Buf.rd; with_reducible assumption) | (with_reducible apply Rd.appL; with_reducible assumption) | (with_reducible apply Rd.appL; with_reducible apply Buf.rd; with_reducible assumption) | (with_reducible apply Rd.ofH; with_reducible assumption) | (with_reducible apply Rd.ofH1; with_reducible assumption) | with_reducible apply Rd.cons | with_reducible apply Rd.appR))); (· exact fun _ => rfl); (· decide); · (first | omega | (simp only [List.length_map, List.length_append, List.length_cons, List.length_nil, List.length_take, List.length_drop, List.length_replicate, List.length_set] at *; omega)))
                   | ((with_reducible apply IdxSl.own 2); (· rfl); (· first | with_reducible rfl | exact natL _); (· (first | omega | (simp only [List.length_map, List.length_append, List.length_cons, List.length_nil, List.length_take, List.length_drop, List.length_replicate, List.length_set] at *; omega))))
                   | ((with_reducible apply LoadSt.owna (g := spV) (s := 2)); (· rfl); (· (repeat (first | exact List.Mem.head _ | with_reducible apply List.mem_append_right | with_reducible apply List.mem_cons_of_mem))); (· exact fun _ => rfl); (· decide); (· (first | omega | (simp only [List.length_map, List.length_append, List.length_cons, List.length_nil, List.length_take, List.length_drop, List.length_replicate, List.length_set] at *; omega))); (· first | with_reducible assumption | rfl))
                   | ((with_reducible apply StoreSt.flat (g := spV) (s := 2)); (· (repeat (first | exact Upd.hd | apply Upd.tl | apply Upd.app))); (· exact fun _ => rfl); (· rfl); (· rfl); (· (first | omega | (simp only [List.length_map, List.length_append, List.length_cons, List.length_nil, List.length_take, List.length_drop, List.length_replicate, List.length_set] at *; omega))); (· first | with_reducible assumption | rfl))
                   | ((with_reducible apply IdxSl.rdg (g := spV) (s := 2)); (· with_reducible assumption); (· exact fun _ => rfl); (· decide); (· rfl); (· first | with_reducible rfl | exact natL _); (· (first | omega | (simp only [List.length_map, List.length_append, List.length_cons, List.length_nil, List.length_take, List.length_drop, List.length_replicate, List.length_set] at *; omega))); · (first | omega | (simp only [List.length_map, List.length_append, List.length_cons, List.length_nil, List.length_take, List.length_drop, List.length_replicate, List.length_set] at *; omega)))
                   | ((with_reducible apply LoadSt.rdZ); (· (repeat (first | with_reducible assumption | (with_reducible apply Buf.rd; with_reducible assumption) | (with_reducible apply Rd.appL; with_reducible assumption) | (with_reducible apply Rd.appL; with_reducible apply Buf.rd; with_reducible assumption) | (with_reducible apply Rd.ofH; with_reducible assumption) | (with_reducible apply Rd.ofH1; with_reducible assumption) | with_reducible apply Rd.cons | with_reducible apply Rd.appR))); · (first | omega | (simp only [List.length_map, List.length_append, List.length_cons, List.length_nil, List.length_take, List.length_drop, List.length_replicate, List.length_set] at *; omega)))
                   | (with_reducible refine NextSt.mk ?_)
                   | (with_reducible refine OnBB.tt ?_)
                   | (with_reducible refine OnBB.ff ?_)
                   | ((with_reducible apply NW.addN); (· first | with_reducible rfl | exact natL _); (· first | with_reducible rfl | exact natL _); (· omega))
                   | ((with_reducible apply NW.subN); (· first | with_reducible rfl | exact natL _); (· first | with_reducible rfl | exact natL _); (· omega))
                   | ((with_reducible apply Cmp.yes); · first | omega | (with_reducible assumption) | (with_reducible rfl))
                   | ((with_reducible apply LoadSt.box); · (repeat (first | exact List.Mem.head _ | with_reducible apply List.mem_append_right | with_reducible apply List.mem_cons_of_mem)))
                   | ((with_reducible apply LoadSt.boxAgg); · (repeat (first | exact List.Mem.head _ | with_reducible apply List.mem_append_right | with_reducible apply List.mem_cons_of_mem)))
                   | ((with_reducible apply IdxSl.rd1); (· with_reducible assumption); (· rfl); (· first | with_reducible rfl | exact natL _); (· (first | omega | (simp only [List.length_map, List.length_append, List.length_cons, List.length_nil, List.length_take, List.length_drop, List.length_replicate, List.length_set] at *; omega))); · (first | omega | (simp only [List.length_map, List.length_append, List.length_cons, List.length_nil, List.length_take, List.length_drop, List.length_replicate, List.length_set] at *; omega))))
          refine RoundFix.mk (i + 1) ?_ ?_ _ rfl (Wk.drop (by (try dsimp only); (try simp only [List.cons_append, List.nil_append]); (repeat (first | with_reducible exact List.Sublist.refl _ | with_reducible exact List.nil_sublist _ | with_reducible apply List.Sublist.cons_cons | with_reducible apply sub_app | apply List.Sublist.cons_cons | apply sub_app | with_reducible apply List.Sublist.cons | with_reducible apply sub_skip)))) ?_
          · omega
          · repeat' (first | exact True.intro | refine And.intro ?_ ?_ | rfl | exact congrArg (Value.int _) (by omega) | exact congrArg (fun n => Value.slice _ n _) (by (try dsimp only); omega))
          · exact ⟨hil, hnext hf⟩
        · have hf' : ¬ (fwd p w l i).lo ≤ (fwd p w l i).hi := hf
          have hna : ¬ alive p w l := fun ha => hf (ha i hil)
          repeat' (conv => whnf
                   first
                   | (((with_reducible refine CallSt.rd (f := 46) (X := .agg ⟨spV x⟩) ?_ ?_); (· exact e72i _ _ (Rd.cons (Rd.cons hr)))))
                   | (((with_reducible apply StoreSt.flat (g := spV) (s := 2) (x := meetS x (addS (fwd p w l (i - 1)) (w.getD (i - 1) default)))); (· (repeat (first | exact Upd.hd | apply Upd.tl | apply Upd.app))); (· exact fun _ => rfl); (· rfl); (· rfl); (· omega); (· with_reducible assumption)))
                   | ((with_reducible refine DrawSt.walk [0, 1, 2, 3, 4, 5, 6, 7, 8, 9, 10, 11, 12, 13, 14, 15, 16, 17, 18, 19, 20] mixed ?_ ?_); · decide +kernel)
                   | ((with_reducible apply CallG.rd (f := 47)); · (apply GSpec.cast (sp := f81 _ _ _ _ _ _); (· (repeat' (first | with_reducible rfl | refine congrArg₂ List.cons ?_ ?_ | exact iN_lit _ | rfl))); all_goals (first | with_reducible assumption | omega | ((repeat (first | with_reducible assumption | with_reducible apply xor_lt | with_reducible apply mul_lt | with_reducible exact pw_lt _ | with_reducible exact inv_lt _ | omega)); done) | ((repeat (first | with_reducible assumption | (with_reducible apply Buf.rd; with_reducible assumption) | (with_reducible apply Rd.appL; with_reducible assumption) | (with_reducible apply Rd.appL; with_reducible apply Buf.rd; with_reducible assumption) | (with_reducible apply Rd.ofH; with_reducible assumption) | (with_reducible apply Rd.ofH1; with_reducible assumption) | with_reducible apply Rd.cons | with_reducible apply Rd.appR)); done) | decide)))
                   | ((with_reducible apply CallG.rd (f := 48)); · (apply GSpec.cast (sp := f82 _ _ _ _ ?_ ?_ _ _); (· (repeat' (first | with_reducible rfl | refine congrArg₂ List.cons ?_ ?_ | exact iN_lit _ | rfl))); all_goals (first | with_reducible assumption | omega | ((repeat (first | with_reducible assumption | with_reducible apply xor_lt | with_reducible apply mul_lt | with_reducible exact pw_lt _ | with_reducible exact inv_lt _ | omega)); done) | ((repeat (first | with_reducible assumption | (with_reducible apply Buf.rd; with_reducible assumption) | (with_reducible apply Rd.appL; with_reducible assumption) | (with_reducible apply Rd.appL; with_reducible apply Buf.rd; with_reducible assumption) | (with_reducible apply Rd.ofH; with_reducible assumption) | (with_reducible apply Rd.ofH1; with_reducible assumption) | with_reducible apply Rd.cons | with_reducible apply Rd.appR)); done) | decide)))
                   | ((with_reducible apply CallSt.decY (f := 49)); (· (apply GSpec.cast (sp := f91 _ _ _ _); (· (repeat' (first | with_reducible rfl | refine congrArg₂ List.cons ?_ ?_ | exact iN_lit _ | rfl))); all_goals (first | with_reducible assumption | omega | ((repeat (first | with_reducible assumption | with_reducible apply xor_lt | with_reducible apply mul_lt | with_reducible exact pw_lt _ | with_reducible exact inv_lt _ | omega)); done) | ((repeat (first | with_reducible assumption | (with_reducible apply Buf.rd; with_reducible assumption) | (with_reducible apply Rd.appL; with_reducible assumption) | (with_reducible apply Rd.appL; with_reducible apply Buf.rd; with_reducible assumption) | (with_reducible apply Rd.ofH; with_reducible assumption) | (with_reducible apply Rd.ofH1; with_reducible assumption) | with_reducible apply Rd.cons | with_reducible apply Rd.appR)); done) | decide))); · omega)
                   | ((with_reducible apply LoadSt.rdg (g := spV) (s := 2)); (· rfl); (· (repeat (first | with_reducible assumption | (with_reducible apply Buf.rd; with_reducible assumption) | (with_reducible apply Rd.appL; with_reducible assumption) | (with_reducible apply Rd.appL; with_reducible apply Buf.rd; with_reducible assumption) | (with_reducible apply Rd.ofH; with_reducible assumption) | (with_reducible apply Rd.ofH1; with_reducible assumption) | with_reducible apply Rd.cons | with_reducible apply Rd.appR))); (· exact fun _ => rfl); (· decide); · (first | omega | (simp only [List.length_map, List.length_append, List.length_cons, List.length_nil, List.length_take, List.length_drop, List.length_replicate, List.length_set] at *; omega)))
                   | ((with_reducible apply IdxSl.own 2); (· rfl); (· first | with_reducible rfl | exact natL _); (· (first | omega | (simp only [List.length_map, List.length_append, List.length_cons, List.length_nil, List.length_take, List.length_drop, List.length_replicate, List.length_set] at *; omega))))
                   | ((with_reducible apply LoadSt.owna (g := spV) (s := 2)); (· rfl); (· (repeat (first | exact List.Mem.head _ | with_reducible apply List.mem_append_right | with_reducible apply List.mem_cons_of_mem))); (· exact fun _ => rfl); (· decide); (· (first | omega | (simp only [List.length_map, List.length_append, List.length_cons, List.length_nil, List.length_take, List.length_drop, List.length_replicate, List.length_set] at *; omega))); (· first | with_reducible assumption | rfl))
                   | ((with_reducible apply StoreSt.flat (g := spV) (s := 2)); (· (repeat (first | exact Upd.hd | apply Upd.tl | apply Upd.app))); (· exact fun _ => rfl); (· rfl); (· rfl); (· (first | omega | (simp only [List.length_map, List.length_append, List.length_cons, List.length_nil, List.length_take, List.length_drop, List.length_replicate, List.length_set] at *; omega))); (· first | with_reducible assumption | rfl))
                   | ((with_reducible apply IdxSl.rdg (g := spV) (s := 2)); (· with_reducible assumption); (· exact fun _ => rfl); (· decide); (· rfl); (· first | with_reducible rfl | exact natL _); (· (first | omega | (simp only [List.length_map, List.length_append, List.length_cons, List.length_nil, List.length_take, List.length_drop, List.length_replicate, List.length_set] at *; omega))); · (first | omega | (simp only [List.length_map, List.length_append, List.length_cons, List.length_nil, List.length_take, List.length_drop, List.length_replicate, List.length_set] at *; omega)))
                   | ((with_reducible apply LoadSt.rdZ); (· (repeat (first | with_reducible assumption | (with_reducible apply Buf.rd; with_reducible assumption) | (with_reducible apply Rd.appL; with_reducible assumption) | (with_reducible apply Rd.appL; with_reducible apply Buf.rd; with_reducible assumption) | (with_reducible apply Rd.ofH; with_reducible assumption) | (with_reducible apply Rd.ofH1; with_reducible assumption) | with_reducible apply Rd.cons | with_reducible apply Rd.appR))); · (first | omega | (simp only [List.length_map, List.length_append, List.length_cons, List.length_nil, List.length_take, List.length_drop, List.length_replicate, List.length_set] at *; omega)))
                   | (with_reducible refine NextSt.mk ?_)
                   | (with_reducible refine OnBB.tt ?_)
                   | ((with_reducible apply NW.subN); (· first | with_reducible rfl | exact natL _); (· first | with_reducible rfl | exact natL _); (· omega))
                   | ((with_reducible apply Cmp.yes); · first | omega | (with_reducible assumption) | (with_reducible rfl))
                   | ((with_reducible apply LoadSt.box); · (repeat (first | exact List.Mem.head _ | with_reducible apply List.mem_append_right | with_reducible apply List.mem_cons_of_mem)))
                   | ((with_reducible apply LoadSt.boxAgg); · (repeat (first | exact List.Mem.head _ | with_reducible apply List.mem_append_right | with_reducible apply List.mem_cons_of_mem)))
                   | ((with_reducible apply IdxSl.rd1); (· with_reducible assumption); (· rfl); (· first | with_reducible rfl | exact natL _); (· (first | omega | (simp only [List.length_map, List.length_append, List.length_cons, List.length_nil, List.length_take, List.length_drop, List.length_replicate, List.length_set] at *; omega))); · (first | omega | (simp only [List.length_map, List.length_append, List.length_cons, List.length_nil, List.length_take, List.length_drop, List.length_replicate, List.length_set] at *; omega))))
          conv => whnf
          refine FinSt.new (H := []) (by (try dsimp only); (try simp only [List.cons_append, List.nil_append]); (repeat (first | with_reducible exact List.Sublist.refl _ | with_reducible exact List.nil_sublist _ | with_reducible apply List.Sublist.cons_cons | with_reducible apply sub_app | apply List.Sublist.cons_cons | apply sub_app | with_reducible apply List.Sublist.cons | with_reducible apply sub_skip))) ?_
          exact EndsR.no hna
    · have : i = l.length := by omega
      subst this
      have hal : alive p w l := hall
      have hwf : ∀ i, full (w.getD i default) := fun j => (wOk_at hw j).1
      repeat' (conv => whnf
               first
               | (with_reducible refine NextSt.mk ?_)
               | (with_reducible refine OnBB.ff ?_)
               | ((with_reducible apply NW.i64); · omega)
               | ((with_reducible apply Cmp.no); · first | omega | (with_reducible assumption)))
      refine LoopSt.fix [9, 59, 60, 61, 62, 63, 64, 65, 66, 67, 68, 69, 70, 71, 72, 73, 74, 75, 76, 77, 78, 79, 80, 81] (fun (m : Nat) => [(9, .int .i64 (dn m))]) (fun m => (_b, .cells ⟨(bwdL p w l (m - 1)).flatMap spV⟩ 50 (0, 0)) :: (bx, .cells ⟨[.int .i64 p.no, .int .i64 p.cell, .int .i64 p.noise, .int .i64 p.slab, .int .i64 p.jump, .int .i64 p.faults, .slice a p.log.length c, .slice a2 w.length c2]⟩ 81 (0, 0)) :: O) (fun m => m ≤ l.length ∧ (m = 0 → l.length = 0)) (fun m => m) (l.length) _ (Wk.refl _ _) ((by rw [bwdL_start])) ?_ ?_ ?_
      · repeat' (first | exact True.intro | refine And.intro ?_ ?_ | rfl | exact congrArg (Value.int _) (by omega) | exact congrArg (fun n => Value.slice _ n _) (by (try dsimp only); omega))
      · exact ⟨Nat.le_refl _, id⟩
      · rintro m d ⟨hm, hm0⟩
        by_cases hm2 : 2 ≤ m
        · obtain ⟨j, rfl⟩ : ∃ j, m = j + 2 := ⟨m - 2, by omega⟩
          rw [dn_at]
          have hlen := bwdL_len p w l (j + 2 - 1)
          have hlen1 := bwdL_len p w l (j + 1 - 1)
          have hg0 : (bwdL p w l (j + 2 - 1)).getD j default = fwd p w l j := bwdL_get (by omega)
          have hg1 : (bwdL p w l (j + 2 - 1)).getD (j + 1) default = endI p w l (j + 1) := bwdL_get1 (by omega)
          have hset : (bwdL p w l (j + 2 - 1)).set j (meetS (fwd p w l j) (lessS (endI p w l (j + 1)) (w.getD j default))) = bwdL p w l (j + 1 - 1) := by
            rw [← endI_step (by omega)]; exact bwdL_set
          have hb := end_in hp hw hal hc (i := j + 1) (by omega)
          have hwa := wOk_at hw j
          repeat' (conv => whnf
                   first
                   | (((with_reducible apply StoreSt.flat (g := spV) (s := 2) (x := meetS (fwd p w l j) (lessS (endI p w l (j + 1)) (w.getD j default)))); (· (repeat (first | exact Upd.hd | apply Upd.tl | apply Upd.app))); (· exact fun _ => rfl); (· rfl); (· rfl); (· omega); (· with_reducible assumption)))
                   | ((with_reducible refine DrawSt.walk [0, 1, 2, 3, 4, 5, 6, 7, 8, 9, 10, 11, 12, 13, 14, 15, 16, 17, 18, 19] mixed ?_ ?_); · decide +kernel)
                   | ((with_reducible apply CallG.rd (f := 47)); · (apply GSpec.cast (sp := f81 _ _ _ _ _ _); (· (repeat' (first | with_reducible rfl | refine congrArg₂ List.cons ?_ ?_ | exact iN_lit _ | rfl))); all_goals (first | with_reducible assumption | omega | ((repeat (first | with_reducible assumption | with_reducible apply xor_lt | with_reducible apply mul_lt | with_reducible exact pw_lt _ | with_reducible exact inv_lt _ | omega)); done) | ((repeat (first | with_reducible assumption | (with_reducible apply Buf.rd; with_reducible assumption) | (with_reducible apply Rd.appL; with_reducible assumption) | (with_reducible apply Rd.appL; with_reducible apply Buf.rd; with_reducible assumption) | (with_reducible apply Rd.ofH; with_reducible assumption) | (with_reducible apply Rd.ofH1; with_reducible assumption) | with_reducible apply Rd.cons | with_reducible apply Rd.appR)); done) | decide)))
                   | ((with_reducible apply CallG.rd (f := 50)); · (apply GSpec.cast (sp := f83 _ _ _ _ ?_ ?_ _ _); (· (repeat' (first | with_reducible rfl | refine congrArg₂ List.cons ?_ ?_ | exact iN_lit _ | rfl))); all_goals (first | with_reducible assumption | omega | ((repeat (first | with_reducible assumption | with_reducible apply xor_lt | with_reducible apply mul_lt | with_reducible exact pw_lt _ | with_reducible exact inv_lt _ | omega)); done) | ((repeat (first | with_reducible assumption | (with_reducible apply Buf.rd; with_reducible assumption) | (with_reducible apply Rd.appL; with_reducible assumption) | (with_reducible apply Rd.appL; with_reducible apply Buf.rd; with_reducible assumption) | (with_reducible apply Rd.ofH; with_reducible assumption) | (with_reducible apply Rd.ofH1; with_reducible assumption) | with_reducible apply Rd.cons | with_reducible apply Rd.appR)); done) | decide)))
                   | ((with_reducible apply LoadSt.rdg (g := spV) (s := 2)); (· rfl); (· (repeat (first | with_reducible assumption | (with_reducible apply Buf.rd; with_reducible assumption) | (with_reducible apply Rd.appL; with_reducible assumption) | (with_reducible apply Rd.appL; with_reducible apply Buf.rd; with_reducible assumption) | (with_reducible apply Rd.ofH; with_reducible assumption) | (with_reducible apply Rd.ofH1; with_reducible assumption) | with_reducible apply Rd.cons | with_reducible apply Rd.appR))); (· exact fun _ => rfl); (· decide); · (first | omega | (simp only [List.length_map, List.length_append, List.length_cons, List.length_nil, List.length_take, List.length_drop, List.length_replicate, List.length_set] at *; omega)))
                   | ((with_reducible apply IdxSl.own 2); (· rfl); (· first | with_reducible rfl | exact natL _); (· (first | omega | (simp only [List.length_map, List.length_append, List.length_cons, List.length_nil, List.length_take, List.length_drop, List.length_replicate, List.length_set] at *; omega))))
                   | ((with_reducible apply LoadSt.owna (g := spV) (s := 2)); (· rfl); (· (repeat (first | exact List.Mem.head _ | with_reducible apply List.mem_append_right | with_reducible apply List.mem_cons_of_mem))); (· exact fun _ => rfl); (· decide); (· (first | omega | (simp only [List.length_map, List.length_append, List.length_cons, List.length_nil, List.length_take, List.length_drop, List.length_replicate, List.length_set] at *; omega))); (· first | with_reducible assumption | rfl))
                   | ((with_reducible apply IdxSl.rdg (g := spV) (s := 2)); (· with_reducible assumption); (· exact fun _ => rfl); (· decide); (· rfl); (· first | with_reducible rfl | exact natL _); (· (first | omega | (simp only [List.length_map, List.length_append, List.length_cons, List.length_nil, List.length_take, List.length_drop, List.length_replicate, List.length_set] at *; omega))); · (first | omega | (simp only [List.length_map, List.length_append, List.length_cons, List.length_nil, List.length_take, List.length_drop, List.length_replicate, List.length_set] at *; omega)))
                   | (with_reducible refine NextSt.mk ?_)
                   | (with_reducible refine OnBB.tt ?_)
                   | ((with_reducible apply NW.addN); (· first | with_reducible rfl | exact natL _); (· first | with_reducible rfl | exact natL _); (· omega))
                   | ((with_reducible apply NW.i64); · omega)
                   | ((with_reducible apply Cmp.yes); · first | omega | (with_reducible assumption) | (with_reducible rfl))
                   | ((with_reducible apply LoadSt.box); · (repeat (first | exact List.Mem.head _ | with_reducible apply List.mem_append_right | with_reducible apply List.mem_cons_of_mem))))
          refine RoundFix.mk (j + 1) ?_ ?_ _ rfl (Wk.drop (by (try dsimp only); (try simp only [List.cons_append, List.nil_append]); (repeat (first | with_reducible exact List.Sublist.refl _ | with_reducible exact List.nil_sublist _ | with_reducible apply List.Sublist.cons_cons | with_reducible apply sub_app | apply List.Sublist.cons_cons | apply sub_app | with_reducible apply List.Sublist.cons | with_reducible apply sub_skip)))) ?_
          · exact Nat.lt_succ_self _
          · repeat' (first | exact True.intro | refine And.intro ?_ ?_ | exact congrArg (Value.int _) (dn_step _) | rfl | exact congrArg (Value.int _) (by omega) | exact congrArg (fun n => Value.slice _ n _) (by (try dsimp only); omega))
          · exact ⟨by omega, fun h => by omega⟩
        · have hlow := dn_low (by omega : m < 2)
          have hm1 : m - 1 = 0 := by omega
          rw [hm1, bwdL_zero]
          repeat' (conv => whnf
                   first
                   | (with_reducible refine NextSt.mk ?_)
                   | (with_reducible refine OnBB.ff ?_)
                   | ((with_reducible apply Cmp.no); · first | omega | (with_reducible assumption)))
          conv => whnf
          refine FinSt.new (H := [(_b, .cells ⟨(endsV p w l).flatMap spV⟩ 50 (0, 0))]) (by (try dsimp only); (try simp only [List.cons_append, List.nil_append]); (repeat (first | with_reducible exact List.Sublist.refl _ | with_reducible exact List.nil_sublist _ | with_reducible apply List.Sublist.cons_cons | with_reducible apply sub_app | apply List.Sublist.cons_cons | apply sub_app | with_reducible apply List.Sublist.cons | with_reducible apply sub_skip))) ?_
          exact EndsR.yes hal
end Go.Proofs.YtaahjlhfmkjefaaGreatDoor
/- The reference's ends of loads in a case. -/
namespace Go.Proofs.YtaahjlhfmkjefaaGreatDoor
open Go Go.Gv
set_option maxRecDepth 100000
set_option maxHeartbeats 8000000
set_option linter.unusedSimpArgs false
set_option linter.unusedVariables false
end Go.Proofs.YtaahjlhfmkjefaaGreatDoor
/- The reference's check of what it is asked; is a case alive; its loads. -/
namespace Go.Proofs.YtaahjlhfmkjefaaGreatDoor
open Go Go.Gv
set_option maxRecDepth 100000
set_option maxHeartbeats 8000000
set_option linter.unusedSimpArgs false
set_option linter.unusedVariables false
end Go.Proofs.YtaahjlhfmkjefaaGreatDoor
/- Is a case alive; its loads. -/
namespace Go.Proofs.YtaahjlhfmkjefaaGreatDoor
open Go Go.Gv
set_option maxRecDepth 100000
set_option maxHeartbeats 8000000
set_option linter.unusedSimpArgs false
set_option linter.unusedVariables false
theorem told_ok {p : Pl} {w : List Sp} {l : List Int} (h : toldV p w l = 0) : pOk p ∧ wOk p w ∧ caseOk p l := by
  unfold toldV at h
  split at h
  · rename_i hn; exact absurd h hn
  · rename_i hn
    obtain ⟨hp, hw⟩ := tell_ok (Classical.not_not.1 hn)
    split at h
    · rename_i hc; exact ⟨hp, hw, hc⟩
    · cases h
theorem RdLL.one {h : View} {O : Hp} {b : Nat} {a : Option Addr} {l : List Int} {c : Nat} {ty : TypeId} {fr : Nat × Nat} (m : (b, Obj.cells ⟨[.slice a l.length c]⟩ ty fr) ∈ O) (hr : Rd h O a (l.map zI)) : RdLL h O (some ⟨b, 0, none⟩) [l] :=
  ⟨[.slice a l.length c], rfl, Rd.own0 m, fun i hi => by
    have : i = 0 := by simp at hi; exact hi
    subst this
    exact ⟨a, c, rfl, hr⟩⟩
def aliveT (p : Pl) (w : List Sp) (l : List Int) : Value := .tuple ⟨[.bool (decide (toldV p w l = 0 ∧ alive p w l)), .int .i64 (toldV p w l)]⟩
def loadO (p : Pl) (w : List Sp) (l : List Int) : List Sp := if toldV p w l = 0 then endsO p w l else []
def loadE (p : Pl) (w : List Sp) (l : List Int) : Int := if toldV p w l ≠ 0 then toldV p w l else if alive p w l then 0 else 33
def LoadsR (p : Pl) (w : List Sp) (l : List Int) (v : Value) (H : Hp) : Prop := ∃ a c, v = .tuple ⟨[.slice a (loadO p w l).length c, .int .i64 (loadE p w l)]⟩ ∧ RdH H a ((loadO p w l).flatMap spV) ∧ (loadO p w l).length ≤ c
theorem LoadsR.none {p : Pl} {w : List Sp} {l : List Int} {e : Int} (h1 : loadO p w l = []) (h2 : loadE p w l = e) : LoadsR p w l (.tuple ⟨[.slice none 0 0, .int .i64 e]⟩) [] :=
  ⟨Option.none, 0, by rw [h1, h2]; rfl, by rw [h1]; exact Rd.nil, by rw [h1]; exact Nat.le_refl 0⟩
theorem f20 (p : Pl) (w : List Sp) (l : List Int) (a a2 a3 : Option Addr) (c c2 c3 : Nat) (hl : p.log.length ≤ 9223372036854775807) (hw : w.length ≤ 9223372036854775807) (hll : l.length ≤ 9223372036854775807) (h : View) (O : Hp) (hr : Rd h O a (p.log.flatMap shV)) (hr2 : Rd h O a2 (w.flatMap spV)) (hr3 : Rd h O a3 (l.map zI)) :
    GSpec Tryz.prog 12 [.agg ⟨plV p a c⟩, .slice a2 w.length c2, .slice a3 l.length c3] h O (Ret O (aliveT p w l)) := by
  have e62 := fun O hr hr2 hr3 => f62 p w l a a2 a3 c c2 c3 hl hw hll h O hr hr2 hr3
  show GSpec Tryz.prog 12 [.agg ⟨[.int .i64 p.no, .int .i64 p.cell, .int .i64 p.noise, .int .i64 p.slab, .int .i64 p.jump, .int .i64 p.faults, .slice a p.log.length c]⟩, _, _] h O _
  by_cases ht : toldV p w l = 0
  · obtain ⟨hp, hwo, hc⟩ := told_ok ht
    rw [ht] at e62
    rw [show aliveT p w l = .tuple ⟨[.bool (decide (alive p w l)), .int .i64 0]⟩ by unfold aliveT; simp only [ht, true_and]]
    have e63 := fun O hr hr2 hr3 => f63 p w l a a2 a3 c c2 c3 hp hwo hc.1 h O hr hr2 hr3
    refine GSpec.enter (fn := Tryz.f12) Tryz.func12 rfl (by kernel_rfl) ?_
    repeat' (conv => whnf
             first
             | (((with_reducible refine CallSt.rd (f := 29) (X := .int .i64 0) ?_ ?_); (· exact e62 _ (Rd.cons hr) (Rd.cons hr2) (Rd.cons hr3))))
             | (((with_reducible refine CallSt.new (f := 30) (R := EndsR p w l) ?_ ?_); (· exact e63 _ (Rd.cons hr) (Rd.cons hr2) (Rd.cons hr3)); rintro _ H1 ⟨ea, ec, rfl, er, el⟩))
             | (with_reducible refine NextSt.mk ?_)
             | (with_reducible refine OnBB.ff ?_)
             | ((with_reducible apply Cmp.no); · first | omega | (with_reducible assumption))
             | ((with_reducible apply LoadSt.boxAgg); · (repeat (first | exact List.Mem.head _ | with_reducible apply List.mem_append_right | with_reducible apply List.mem_cons_of_mem)))
             | ((with_reducible refine AllocSt.mk ?_); intro _b _hb _hbO))
    conv => whnf
    refine FinSt.ret (by (try dsimp only); (try simp only [List.cons_append, List.nil_append]); (repeat (first | with_reducible exact List.Sublist.refl _ | with_reducible exact List.nil_sublist _ | with_reducible apply List.Sublist.cons_cons | with_reducible apply sub_app | apply List.Sublist.cons_cons | apply sub_app | with_reducible apply List.Sublist.cons | with_reducible apply sub_skip))) ?_
    rfl
  · rw [show aliveT p w l = .tuple ⟨[.bool false, .int .i64 (toldV p w l)]⟩ by unfold aliveT; simp only [ht, false_and, decide_false]]
    refine GSpec.enter (fn := Tryz.f12) Tryz.func12 rfl (by kernel_rfl) ?_
    repeat' (conv => whnf
             first
             | (((with_reducible refine CallSt.rd (f := 29) (X := .int .i64 (toldV p w l)) ?_ ?_); (· exact e62 _ (Rd.cons hr) (Rd.cons hr2) (Rd.cons hr3))))
             | (with_reducible refine NextSt.mk ?_)
             | (with_reducible refine OnBB.tt ?_)
             | ((with_reducible apply Cmp.yes); · first | omega | (with_reducible assumption) | (with_reducible rfl))
             | ((with_reducible apply LoadSt.boxAgg); · (repeat (first | exact List.Mem.head _ | with_reducible apply List.mem_append_right | with_reducible apply List.mem_cons_of_mem)))
             | ((with_reducible refine AllocSt.mk ?_); intro _b _hb _hbO))
    conv => whnf
    refine FinSt.ret (by (try dsimp only); (try simp only [List.cons_append, List.nil_append]); (repeat (first | with_reducible exact List.Sublist.refl _ | with_reducible exact List.nil_sublist _ | with_reducible apply List.Sublist.cons_cons | with_reducible apply sub_app | apply List.Sublist.cons_cons | apply sub_app | with_reducible apply List.Sublist.cons | with_reducible apply sub_skip))) ?_
    rfl
theorem f22 (p : Pl) (w : List Sp) (l : List Int) (a a2 a3 : Option Addr) (c c2 c3 : Nat) (hl : p.log.length ≤ 9223372036854775807) (hw : w.length ≤ 9223372036854775807) (hll : l.length ≤ 9223372036854775807) (h : View) (O : Hp) (hr : Rd h O a (p.log.flatMap shV)) (hr2 : Rd h O a2 (w.flatMap spV)) (hr3 : Rd h O a3 (l.map zI)) :
    GSpec Tryz.prog 11 [.agg ⟨plV p a c⟩, .slice a2 w.length c2, .slice a3 l.length c3] h O (New O (LoadsR p w l)) := by
  have e62 := fun O hr hr2 hr3 => f62 p w l a a2 a3 c c2 c3 hl hw hll h O hr hr2 hr3
  show GSpec Tryz.prog 11 [.agg ⟨[.int .i64 p.no, .int .i64 p.cell, .int .i64 p.noise, .int .i64 p.slab, .int .i64 p.jump, .int .i64 p.faults, .slice a p.log.length c]⟩, _, _] h O _
  by_cases ht : toldV p w l = 0
  · obtain ⟨hp, hwo, hc⟩ := told_ok ht
    rw [ht] at e62
    have e63 := fun O hr hr2 hr3 => f63 p w l a a2 a3 c c2 c3 hp hwo hc.1 h O hr hr2 hr3
    have h1 : loadO p w l = endsO p w l := if_pos ht
    by_cases ha : alive p w l
    · have h2 : loadE p w l = 0 := (if_neg (fun hx => hx ht)).trans (if_pos ha)
      have hd : decide (alive p w l) = true := decide_eq_true ha
      refine GSpec.enter (fn := Tryz.f11) Tryz.func11 rfl (by kernel_rfl) ?_
      repeat' (conv => whnf
               first
               | (((with_reducible refine CallSt.rd (f := 29) (X := .int .i64 0) ?_ ?_); (· exact e62 _ (Rd.cons hr) (Rd.cons hr2) (Rd.cons hr3))))
               | (((with_reducible refine CallSt.new (f := 30) (R := EndsR p w l) ?_ ?_); (· exact e63 _ (Rd.cons hr) (Rd.cons hr2) (Rd.cons hr3)); rintro _ H1 ⟨ea, ec, rfl, er, el⟩))
               | (with_reducible refine NextSt.mk ?_)
               | (with_reducible refine OnBB.ff ?_)
               | ((with_reducible apply Cmp.no); · first | omega | (with_reducible assumption))
               | ((with_reducible apply LoadSt.boxAgg); · (repeat (first | exact List.Mem.head _ | with_reducible apply List.mem_append_right | with_reducible apply List.mem_cons_of_mem)))
               | ((with_reducible refine AllocSt.mk ?_); intro _b _hb _hbO)
               | ((with_reducible apply OnBB.decY); · omega))
      conv => whnf
      refine FinSt.new (H := H1) (by (try dsimp only); (try simp only [List.cons_append, List.nil_append]); (repeat (first | with_reducible exact List.Sublist.refl _ | with_reducible exact List.nil_sublist _ | with_reducible apply List.Sublist.cons_cons | with_reducible apply sub_app | apply List.Sublist.cons_cons | apply sub_app | with_reducible apply List.Sublist.cons | with_reducible apply sub_skip))) ?_
      exact ⟨ea, ec, by rw [h1, h2], by rw [h1]; exact er, by rw [h1]; exact el⟩
    · have h2 : loadE p w l = 33 := (if_neg (fun hx => hx ht)).trans (if_neg ha)
      have hd : decide (alive p w l) = false := decide_eq_false ha
      refine GSpec.enter (fn := Tryz.f11) Tryz.func11 rfl (by kernel_rfl) ?_
      repeat' (conv => whnf
               first
               | (((with_reducible refine CallSt.rd (f := 29) (X := .int .i64 0) ?_ ?_); (· exact e62 _ (Rd.cons hr) (Rd.cons hr2) (Rd.cons hr3))))
               | (((with_reducible refine CallSt.new (f := 30) (R := EndsR p w l) ?_ ?_); (· exact e63 _ (Rd.cons hr) (Rd.cons hr2) (Rd.cons hr3)); rintro _ H1 ⟨ea, ec, rfl, er, el⟩))
               | (with_reducible refine NextSt.mk ?_)
               | (with_reducible refine OnBB.tt ?_)
               | (with_reducible refine OnBB.ff ?_)
               | ((with_reducible apply Cmp.no); · first | omega | (with_reducible assumption))
               | ((with_reducible apply LoadSt.boxAgg); · (repeat (first | exact List.Mem.head _ | with_reducible apply List.mem_append_right | with_reducible apply List.mem_cons_of_mem)))
               | ((with_reducible refine AllocSt.mk ?_); intro _b _hb _hbO)
               | ((with_reducible apply OnBB.decN); · omega))
      conv => whnf
      refine FinSt.new (H := []) (by (try dsimp only); (try simp only [List.cons_append, List.nil_append]); (repeat (first | with_reducible exact List.Sublist.refl _ | with_reducible exact List.nil_sublist _ | with_reducible apply List.Sublist.cons_cons | with_reducible apply sub_app | apply List.Sublist.cons_cons | apply sub_app | with_reducible apply List.Sublist.cons | with_reducible apply sub_skip))) ?_
      exact LoadsR.none (h1.trans (if_neg ha)) h2
  · refine GSpec.enter (fn := Tryz.f11) Tryz.func11 rfl (by kernel_rfl) ?_
    repeat' (conv => whnf
             first
             | (((with_reducible refine CallSt.rd (f := 29) (X := .int .i64 (toldV p w l)) ?_ ?_); (· exact e62 _ (Rd.cons hr) (Rd.cons hr2) (Rd.cons hr3))))
             | (with_reducible refine NextSt.mk ?_)
             | (with_reducible refine OnBB.tt ?_)
             | ((with_reducible apply Cmp.yes); · first | omega | (with_reducible assumption) | (with_reducible rfl))
             | ((with_reducible apply LoadSt.boxAgg); · (repeat (first | exact List.Mem.head _ | with_reducible apply List.mem_append_right | with_reducible apply List.mem_cons_of_mem)))
             | ((with_reducible refine AllocSt.mk ?_); intro _b _hb _hbO))
    conv => whnf
    refine FinSt.new (H := []) (by (try dsimp only); (try simp only [List.cons_append, List.nil_append]); (repeat (first | with_reducible exact List.Sublist.refl _ | with_reducible exact List.nil_sublist _ | with_reducible apply List.Sublist.cons_cons | with_reducible apply sub_app | apply List.Sublist.cons_cons | apply sub_app | with_reducible apply List.Sublist.cons | with_reducible apply sub_skip))) ?_
    exact LoadsR.none (if_neg ht) (if_pos ht)
end Go.Proofs.YtaahjlhfmkjefaaGreatDoor
/- Two entries that tell against each other: the first two. -/
namespace Go.Proofs.YtaahjlhfmkjefaaGreatDoor
open Go Go.Gv
set_option maxRecDepth 100000
set_option maxHeartbeats 8000000
set_option linter.unusedSimpArgs false
set_option linter.unusedVariables false
def scanK (p : Pl) (w : List Sp) (l : List Int) (i : Nat) : Nat → Nat → Option Nat
  | 0, _ => none
  | f + 1, k => if contra p w l i k then some k else scanK p w l i f (k + 1)
def scanI (p : Pl) (w : List Sp) (l : List Int) : Nat → Nat → Option (Nat × Nat)
  | 0, _ => none
  | f + 1, i => match scanK p w l i (l.length - (i + 1)) (i + 1) with
    | some k => some (i, k)
    | none => scanI p w l f (i + 1)
def refV (p : Pl) (w : List Sp) (l : List Int) : Option (Nat × Nat) := scanI p w l l.length 0
def pairV (i k : Int) (b : Bool) (e : Int) : Value := .tuple ⟨[.agg ⟨[.int .i64 i, .int .i64 k]⟩, .bool b, .int .i64 e]⟩
def refT (p : Pl) (w : List Sp) (l : List Int) : Value := if toldV p w l ≠ 0 then pairV 0 0 false (toldV p w l) else match refV p w l with
  | some (i, k) => pairV i k true 0
  | none => pairV 0 0 false 0
theorem scanK_hit {p : Pl} {w : List Sp} {l : List Int} {i k : Nat} (hk : k < l.length) (h : contra p w l i k) : scanK p w l i (l.length - k) k = some k := by
  obtain ⟨f, hf⟩ : ∃ f, l.length - k = f + 1 := ⟨l.length - k - 1, by omega⟩
  rw [hf]; exact if_pos h
theorem scanK_miss {p : Pl} {w : List Sp} {l : List Int} {i k : Nat} (hk : k < l.length) (h : ¬ contra p w l i k) : scanK p w l i (l.length - k) k = scanK p w l i (l.length - (k + 1)) (k + 1) := by
  obtain ⟨f, hf⟩ : ∃ f, l.length - k = f + 1 := ⟨l.length - k - 1, by omega⟩
  rw [hf, show l.length - (k + 1) = f by omega]; exact if_neg h
theorem scanI_hit {p : Pl} {w : List Sp} {l : List Int} {i k : Nat} (hi : i < l.length) (h : scanK p w l i (l.length - (i + 1)) (i + 1) = some k) : scanI p w l (l.length - i) i = some (i, k) := by
  obtain ⟨f, hf⟩ : ∃ f, l.length - i = f + 1 := ⟨l.length - i - 1, by omega⟩
  rw [hf]; unfold scanI; rw [h]
theorem scanI_miss {p : Pl} {w : List Sp} {l : List Int} {i : Nat} (hi : i < l.length) (h : scanK p w l i (l.length - (i + 1)) (i + 1) = none) : scanI p w l (l.length - i) i = scanI p w l (l.length - (i + 1)) (i + 1) := by
  obtain ⟨f, hf⟩ : ∃ f, l.length - i = f + 1 := ⟨l.length - i - 1, by omega⟩
  rw [hf, show l.length - (i + 1) = f by omega]; conv => lhs; unfold scanI
  rw [h]
theorem f32 (p : Pl) (w : List Sp) (l : List Int) (a a2 a3 : Option Addr) (c c2 c3 : Nat) (hl : p.log.length ≤ 9223372036854775807) (hw : w.length ≤ 9223372036854775807) (hll : l.length ≤ 9223372036854775807) (h : View) (O : Hp) (hr : Rd h O a (p.log.flatMap shV)) (hr2 : Rd h O a2 (w.flatMap spV)) (hr3 : Rd h O a3 (l.map zI)) :
    GSpec Tryz.prog 13 [.agg ⟨plV p a c⟩, .slice a2 w.length c2, .slice a3 l.length c3] h O (Ret O (refT p w l)) := by
  have e62 := fun O hr hr2 hr3 => f62 p w l a a2 a3 c c2 c3 hl hw hll h O hr hr2 hr3
  show GSpec Tryz.prog 13 [.agg ⟨[.int .i64 p.no, .int .i64 p.cell, .int .i64 p.noise, .int .i64 p.slab, .int .i64 p.jump, .int .i64 p.faults, .slice a p.log.length c]⟩, _, _] h O _
  by_cases ht : toldV p w l = 0
  · obtain ⟨hp, hwo, hc⟩ := told_ok ht
    rw [ht] at e62
    have e68 := fun i k hik hk O hr hr2 hr3 => f68 p w l a a2 a3 c c2 c3 i k hp hwo hc.1 hik hk h O hr hr2 hr3
    have hl32 := hp.1.2.2.2.2.2.2
    have hcl := hc.1
    refine GSpec.enter (fn := Tryz.f13) Tryz.func13 rfl (by kernel_rfl) ?_
    repeat' (conv => whnf
             first
             | (((with_reducible refine CallSt.rd (f := 29) (X := .int .i64 0) ?_ ?_); (· exact e62 _ (Rd.cons (Rd.cons hr)) (Rd.cons (Rd.cons hr2)) (Rd.cons (Rd.cons hr3)))))
             | (with_reducible refine NextSt.mk ?_)
             | (with_reducible refine OnBB.ff ?_)
             | ((with_reducible apply Cmp.no); · first | omega | (with_reducible assumption))
             | ((with_reducible apply LoadSt.boxAgg); · (repeat (first | exact List.Mem.head _ | with_reducible apply List.mem_append_right | with_reducible apply List.mem_cons_of_mem)))
             | ((with_reducible refine AllocSt.mk ?_); intro _b _hb _hbO)
             | ((with_reducible apply StoreSt.box); (· (repeat (first | exact Upd.hd | apply Upd.tl | apply Upd.app))); (· rfl); (· rfl); (· rfl)))
    refine LoopSt.fix [7, 8, 11, 12, 27, 28, 29, 30, 31, 32, 33, 34, 35, 36, 37, 38, 39, 40, 41, 42, 43, 44, 45, 46] (fun (i : Nat) => [(27, iN i)]) (fun _ => _) (fun i => i ≤ l.length ∧ refV p w l = scanI p w l (l.length - i) i) (fun i => l.length - i) (0) _ (Wk.refl _ _) (rfl) ?_ ?_ ?_
    · repeat' (first | exact True.intro | refine And.intro ?_ ?_ | rfl | exact congrArg (Value.int _) (by omega) | exact congrArg (fun n => Value.slice _ n _) (by (try dsimp only); omega))
    · exact ⟨Nat.zero_le _, rfl⟩
    · rintro i d ⟨hi, hsc⟩
      by_cases hil : i < l.length
      · repeat' (conv => whnf
                 first
                 | (with_reducible refine NextSt.mk ?_)
                 | (with_reducible refine OnBB.tt ?_)
                 | ((with_reducible apply NW.addN); (· first | with_reducible rfl | exact natL _); (· first | with_reducible rfl | exact natL _); (· omega))
                 | ((with_reducible apply Cmp.yes); · first | omega | (with_reducible assumption) | (with_reducible rfl)))
        refine LoopSt.fix [7, 8, 12, 32, 33, 34, 35, 36, 37, 38, 39, 40, 41, 42, 43, 44, 45] (fun (k : Nat) => [(12, iN k)]) (fun _ => _) (fun k => i + 1 ≤ k ∧ k ≤ l.length ∧ scanK p w l i (l.length - (i + 1)) (i + 1) = scanK p w l i (l.length - k) k) (fun k => l.length - k) (i + 1) _ (Wk.refl _ _) (rfl) ?_ ?_ ?_
        · repeat' (first | exact True.intro | refine And.intro ?_ ?_ | rfl | exact congrArg (Value.int _) (by omega) | exact congrArg (fun n => Value.slice _ n _) (by (try dsimp only); omega))
        · exact ⟨Nat.le_refl _, hil, rfl⟩
        · rintro k d2 ⟨hk1, hk, hsk⟩
          by_cases hkl : k < l.length
          · have ek := e68 i k (by omega) hkl
            by_cases hct : contra p w l i k
            · rw [decide_eq_true hct] at ek
              rw [scanK_hit hkl hct] at hsk
              rw [scanI_hit hil hsk] at hsc
              rw [show refT p w l = pairV i k true 0 by unfold refT; rw [if_neg (fun hx => hx ht), hsc]]
              repeat' (conv => whnf
                       first
                       | (((with_reducible refine CallSt.rd (f := 31) (X := .bool true) ?_ ?_); (· exact ek _ (Rd.cons (Rd.cons (Rd.cons hr))) (Rd.cons (Rd.cons (Rd.cons hr2))) (Rd.cons (Rd.cons (Rd.cons hr3))))))
                       | (with_reducible refine NextSt.mk ?_)
                       | (with_reducible refine OnBB.tt ?_)
                       | ((with_reducible apply Cmp.yes); · first | omega | (with_reducible assumption) | (with_reducible rfl))
                       | ((with_reducible apply LoadSt.boxAgg); · (repeat (first | exact List.Mem.head _ | with_reducible apply List.mem_append_right | with_reducible apply List.mem_cons_of_mem)))
                       | ((with_reducible apply StoreSt.box); (· (repeat (first | exact Upd.hd | apply Upd.tl | apply Upd.app))); (· rfl); (· rfl); (· rfl)))
              conv => whnf
              refine FinSt.ret (by (try dsimp only); (try simp only [List.cons_append, List.nil_append]); (repeat (first | with_reducible exact List.Sublist.refl _ | with_reducible exact List.nil_sublist _ | with_reducible apply List.Sublist.cons_cons | with_reducible apply sub_app | apply List.Sublist.cons_cons | apply sub_app | with_reducible apply List.Sublist.cons | with_reducible apply sub_skip))) ?_
              rfl
            · rw [decide_eq_false hct] at ek
              rw [scanK_miss hkl hct] at hsk
              repeat' (conv => whnf
                       first
                       | (((with_reducible refine CallSt.rd (f := 31) (X := .bool false) ?_ ?_); (· exact ek _ (Rd.cons (Rd.cons (Rd.cons hr))) (Rd.cons (Rd.cons (Rd.cons hr2))) (Rd.cons (Rd.cons (Rd.cons hr3))))))
                       | (with_reducible refine NextSt.mk ?_)
                       | (with_reducible refine OnBB.tt ?_)
                       | (with_reducible refine OnBB.ff ?_)
                       | ((with_reducible apply NW.addN); (· first | with_reducible rfl | exact natL _); (· first | with_reducible rfl | exact natL _); (· omega))
                       | ((with_reducible apply Cmp.yes); · first | omega | (with_reducible assumption) | (with_reducible rfl))
                       | ((with_reducible apply LoadSt.boxAgg); · (repeat (first | exact List.Mem.head _ | with_reducible apply List.mem_append_right | with_reducible apply List.mem_cons_of_mem))))
              refine RoundFix.mk (k + 1) ?_ ?_ _ rfl (Wk.drop (by (try dsimp only); (try simp only [List.cons_append, List.nil_append]); (repeat (first | with_reducible exact List.Sublist.refl _ | with_reducible exact List.nil_sublist _ | with_reducible apply List.Sublist.cons_cons | with_reducible apply sub_app | apply List.Sublist.cons_cons | apply sub_app | with_reducible apply List.Sublist.cons | with_reducible apply sub_skip)))) ?_
              · omega
              · repeat' (first | exact True.intro | refine And.intro ?_ ?_ | rfl | exact congrArg (Value.int _) (by omega) | exact congrArg (fun n => Value.slice _ n _) (by (try dsimp only); omega))
              · exact ⟨by omega, hkl, hsk⟩
          · have hk0 : l.length - k = 0 := by omega
            rw [hk0] at hsk
            rw [scanI_miss hil hsk] at hsc
            repeat' (conv => whnf
                     first
                     | (with_reducible refine NextSt.mk ?_)
                     | (with_reducible refine OnBB.ff ?_)
                     | ((with_reducible apply NW.addN); (· first | with_reducible rfl | exact natL _); (· first | with_reducible rfl | exact natL _); (· omega))
                     | ((with_reducible apply Cmp.no); · first | omega | (with_reducible assumption)))
            refine RoundFix.mk (i + 1) ?_ ?_ _ rfl (Wk.drop (by (try dsimp only); (try simp only [List.cons_append, List.nil_append]); (repeat (first | with_reducible exact List.Sublist.refl _ | with_reducible exact List.nil_sublist _ | with_reducible apply List.Sublist.cons_cons | with_reducible apply sub_app | apply List.Sublist.cons_cons | apply sub_app | with_reducible apply List.Sublist.cons | with_reducible apply sub_skip)))) ?_
            · omega
            · repeat' (first | exact True.intro | refine And.intro ?_ ?_ | rfl | exact congrArg (Value.int _) (by omega) | exact congrArg (fun n => Value.slice _ n _) (by (try dsimp only); omega))
            · exact ⟨hil, hsc⟩
      · have hi0 : l.length - i = 0 := by omega
        rw [hi0] at hsc
        rw [show refT p w l = pairV 0 0 false 0 by unfold refT; rw [if_neg (fun hx => hx ht), hsc]; rfl]
        repeat' (conv => whnf
                 first
                 | (with_reducible refine NextSt.mk ?_)
                 | (with_reducible refine OnBB.ff ?_)
                 | ((with_reducible apply Cmp.no); · first | omega | (with_reducible assumption))
                 | ((with_reducible apply LoadSt.boxAgg); · (repeat (first | exact List.Mem.head _ | with_reducible apply List.mem_append_right | with_reducible apply List.mem_cons_of_mem)))
                 | ((with_reducible apply StoreSt.box); (· (repeat (first | exact Upd.hd | apply Upd.tl | apply Upd.app))); (· rfl); (· rfl); (· rfl)))
        conv => whnf
        refine FinSt.ret (by (try dsimp only); (try simp only [List.cons_append, List.nil_append]); (repeat (first | with_reducible exact List.Sublist.refl _ | with_reducible exact List.nil_sublist _ | with_reducible apply List.Sublist.cons_cons | with_reducible apply sub_app | apply List.Sublist.cons_cons | apply sub_app | with_reducible apply List.Sublist.cons | with_reducible apply sub_skip))) ?_
        rfl
  · rw [show refT p w l = pairV 0 0 false (toldV p w l) from if_pos ht]
    refine GSpec.enter (fn := Tryz.f13) Tryz.func13 rfl (by kernel_rfl) ?_
    repeat' (conv => whnf
             first
             | (((with_reducible refine CallSt.rd (f := 29) (X := .int .i64 (toldV p w l)) ?_ ?_); (· exact e62 _ (Rd.cons (Rd.cons hr)) (Rd.cons (Rd.cons hr2)) (Rd.cons (Rd.cons hr3)))))
             | (with_reducible refine NextSt.mk ?_)
             | (with_reducible refine OnBB.tt ?_)
             | ((with_reducible apply Cmp.yes); · first | omega | (with_reducible assumption) | (with_reducible rfl))
             | ((with_reducible apply LoadSt.boxAgg); · (repeat (first | exact List.Mem.head _ | with_reducible apply List.mem_append_right | with_reducible apply List.mem_cons_of_mem)))
             | ((with_reducible refine AllocSt.mk ?_); intro _b _hb _hbO)
             | ((with_reducible apply StoreSt.box); (· (repeat (first | exact Upd.hd | apply Upd.tl | apply Upd.app))); (· rfl); (· rfl); (· rfl)))
    conv => whnf
    refine FinSt.ret (by (try dsimp only); (try simp only [List.cons_append, List.nil_append]); (repeat (first | with_reducible exact List.Sublist.refl _ | with_reducible exact List.nil_sublist _ | with_reducible apply List.Sublist.cons_cons | with_reducible apply sub_app | apply List.Sublist.cons_cons | apply sub_app | with_reducible apply List.Sublist.cons | with_reducible apply sub_skip))) ?_
    rfl
end Go.Proofs.YtaahjlhfmkjefaaGreatDoor
