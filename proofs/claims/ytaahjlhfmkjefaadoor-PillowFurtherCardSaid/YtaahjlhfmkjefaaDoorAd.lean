/- The plain law: levels of beginnings, trees, hidden loads. -/
import Derived.Test.YtaahjlhfmkjefaaDoorAc
set_option linter.unusedVariables false
set_option linter.unusedSimpArgs false
set_option linter.unusedSectionVars false
/- The plain law: levels of beginnings, one beginning and one state at a time; trees; spans put in order by swaps. No program in sight. -/
namespace Go.Proofs.YtaahjlhfmkjefaaDoor
set_option linter.unusedSimpArgs false
set_option linter.unusedVariables false
/-- What follows a beginning, of the first so many states. -/
def extU (p : Pl) (w : List Sp) (l : List Int) (s : Nat) : List (List Int) := ((List.range s).map fun (t : Nat) => l ++ [(t : Int)]).filter fun m => decide (good p w m)
theorem extU_three (p : Pl) (w : List Sp) (l : List Int) : extU p w l 3 = ext p w l := rfl
theorem extU_step (p : Pl) (w : List Sp) (l : List Int) (s : Nat) : extU p w l (s + 1) = extU p w l s ++ if good p w (l ++ [(s : Int)]) then [l ++ [(s : Int)]] else [] := by
  unfold extU
  rw [List.range_succ, List.map_append, List.filter_append]
  refine congrArg _ ?_
  show List.filter _ [l ++ [(s : Int)]] = _
  by_cases h : good p w (l ++ [(s : Int)])
  · rw [if_pos h, List.filter_cons, if_pos (decide_eq_true h)]; rfl
  · rw [if_neg h, List.filter_cons, if_neg (by rw [decide_eq_false h]; exact Bool.false_ne_true)]; rfl
/-- The next level, as it grows. -/
def nextU (p : Pl) (w : List Sp) (ls : List (List Int)) (i s : Nat) : List (List Int) := (ls.take i).flatMap (ext p w) ++ extU p w (ls.getD i []) s
theorem nextU_yes {p : Pl} {w : List Sp} {ls : List (List Int)} {i s : Nat} (h : good p w (ls.getD i [] ++ [(s : Int)])) : nextU p w ls i (s + 1) = nextU p w ls i s ++ [ls.getD i [] ++ [(s : Int)]] := by
  unfold nextU
  rw [extU_step, if_pos h, List.append_assoc]
theorem nextU_no {p : Pl} {w : List Sp} {ls : List (List Int)} {i s : Nat} (h : ¬ good p w (ls.getD i [] ++ [(s : Int)])) : nextU p w ls i (s + 1) = nextU p w ls i s := by
  unfold nextU
  rw [extU_step, if_neg h, List.append_nil]
theorem nextU_zero (p : Pl) (w : List Sp) (ls : List (List Int)) (i : Nat) : nextU p w ls i 0 = (ls.take i).flatMap (ext p w) := List.append_nil _
theorem nextU_done {p : Pl} {w : List Sp} {ls : List (List Int)} {i : Nat} (h : i < ls.length) : nextU p w ls i 3 = nextU p w ls (i + 1) 0 := by
  rw [nextU_zero]
  unfold nextU
  rw [extU_three, List.take_add_one, List.flatMap_append, List.getD_eq_getElem?_getD, List.getElem?_eq_getElem h]
  show _ = _ ++ [ls[i]].flatMap _
  rw [List.flatMap_cons, List.flatMap_nil, List.append_nil]; rfl
theorem nextU_all {p : Pl} {w : List Sp} {n : Nat} : nextU p w (lvl p w n) (lvl p w n).length 0 = lvl p w (n + 1) := by
  rw [nextU_zero, List.take_length]; rfl
theorem nextU_len {p : Pl} {w : List Sp} {ls : List (List Int)} {i s : Nat} (hs : s ≤ 3) : (nextU p w ls i s).length ≤ 3 * (ls.length + 1) := by
  unfold nextU
  rw [List.length_append]
  have h1 := flatMap_len (f := ext p w) (n := 3) (l := ls.take i) fun x _ => ext_len p w x
  have h2 : (extU p w (ls.getD i []) s).length ≤ s := by
    unfold extU
    refine Nat.le_trans (List.length_filter_le _ _) ?_
    rw [List.length_map, List.length_range]; exact Nat.le_refl _
  have h3 : (ls.take i).length ≤ ls.length := by rw [List.length_take]; omega
  omega
/-! ### beginnings of a pillow -/
theorem cut_len {p : Pl} {n : Nat} (h : n ≤ p.log.length) : (cutP p n).log.length = n := by show (p.log.take n).length = n; rw [List.length_take]; omega
theorem good_bit {p : Pl} {w : List Sp} {l : List Int} {n : Nat} (h : l.length = n) (hn : n ≤ p.log.length) : caseOk (cutP p n) l ∧ alive (cutP p n) (w.take (n - 1)) l ↔ good p w l := by
  rw [caseOk_good, cut_len hn, good_cut (by omega)]
  exact ⟨fun h => h.2, fun g => ⟨h, g⟩⟩
theorem pOk_cut {p : Pl} {n : Nat} (hp : pOk p) (hn : n ≤ p.log.length) : pOk (cutP p n) := by
  obtain ⟨h1, h2⟩ := hp
  have hl := cut_len hn
  refine ⟨⟨h1.1, h1.2.1, h1.2.2.1, h1.2.2.2.1, h1.2.2.2.2.1, h1.2.2.2.2.2.1, by rw [hl]; have := h1.2.2.2.2.2.2; omega⟩, fun i hi => ?_⟩
  rw [hl] at hi
  have h3 := h2 i (by omega)
  unfold logOk cutP at *
  simp only [take_getD hi, take_getD (show i - 1 < n by omega)]
  exact h3
theorem wOk_cut {p : Pl} {w : List Sp} {n : Nat} (hw : wOk p w) (hn : n ≤ p.log.length) : wOk (cutP p n) (w.take (n - 1)) := by
  obtain ⟨h1, h2⟩ := hw
  refine ⟨by rw [cut_len hn, List.length_take]; omega, fun i hi => ?_⟩
  rw [List.length_take] at hi
  rw [take_getD (by omega)]
  exact h2 i (by omega)
/-! ### trees -/
def treeX (p : Pl) (w : List Sp) : Prop := ∃ n, n < p.log.length ∧ 64 < (lvl p w (n + 1)).length
instance (p : Pl) (w : List Sp) : Decidable (treeX p w) := by unfold treeX; infer_instance
def treeE (p : Pl) (w : List Sp) : Int := if tellV p w ≠ 0 then tellV p w else if treeX p w then 2 else 0
def treeT (p : Pl) (w : List Sp) (n : Nat) : List Int := (List.range n).map fun i => ((lvl p w (i + 1)).length : Int)
def treeL (p : Pl) (w : List Sp) : List Int := if treeE p w = 0 then treeT p w p.log.length else []
theorem treeT_len (p : Pl) (w : List Sp) (n : Nat) : (treeT p w n).length = n := by simp [treeT]
theorem treeT_succ (p : Pl) (w : List Sp) (n : Nat) : treeT p w (n + 1) = treeT p w n ++ [((lvl p w (n + 1)).length : Int)] := by unfold treeT; rw [List.range_succ, List.map_append]; rfl
theorem treeT_get {p : Pl} {w : List Sp} {n i : Nat} (h : i < n) : (treeT p w n).getD i 0 = ((lvl p w (i + 1)).length : Int) := by
  unfold treeT
  rw [List.getD_eq_getElem?_getD, List.getElem?_map, List.getElem?_range h]; rfl
/-! ### spans put in order, by swaps -/
/-- A span on its way down: it stands ahead of those behind place k. -/
def wayS (M : List Sp) (x : Sp) (k : Nat) : List Sp := M.take k ++ x :: M.drop k
theorem wayS_len {M : List Sp} {x : Sp} {k : Nat} : (wayS M x k).length = M.length + 1 := by
  unfold wayS
  rw [List.length_append, List.length_cons, List.length_take, List.length_drop]; omega
theorem wayS_start (M : List Sp) (x : Sp) : wayS M x M.length = M ++ [x] := by unfold wayS; rw [List.take_length, List.drop_length]
theorem wayS_at {M : List Sp} {x : Sp} {k : Nat} (h : k ≤ M.length) : (wayS M x k).getD k default = x := by
  unfold wayS
  rw [List.getD_eq_getElem?_getD, List.getElem?_append_right (by rw [List.length_take]; omega), List.length_take, show k - min k M.length = 0 by omega]; rfl
theorem wayS_prev {M : List Sp} {x : Sp} {k : Nat} (h : k < M.length) : (wayS M x (k + 1)).getD k default = M.getD k default := by
  unfold wayS
  rw [List.getD_eq_getElem?_getD, List.getElem?_append_left (by rw [List.length_take]; omega), List.getElem?_take, if_pos (by omega), ← List.getD_eq_getElem?_getD]
theorem wayS_swap {M : List Sp} {x : Sp} {k : Nat} (h : k < M.length) : ((wayS M x (k + 1)).set (k + 1) (M.getD k default)).set k x = wayS M x k := by
  have e : M.drop k = M.getD k default :: M.drop (k + 1) := by
    rw [List.drop_eq_getElem_cons h, List.getD_eq_getElem?_getD, List.getElem?_eq_getElem h]; rfl
  have e2 : M.take (k + 1) = M.take k ++ [M.getD k default] := by
    rw [List.take_add_one, List.getElem?_eq_getElem h, List.getD_eq_getElem?_getD, List.getElem?_eq_getElem h]; rfl
  have hk : (M.take k).length = k := by rw [List.length_take]; omega
  unfold wayS
  rw [e, e2]
  generalize M.getD k default = y
  generalize M.take k = A at *
  subst hk
  rw [List.append_assoc]
  simp [List.set_append]
theorem insS_way {x : Sp} : ∀ {M : List Sp} {k : Nat}, srt M → k ≤ M.length → (∀ i, k ≤ i → i < M.length → x.lo < (M.getD i default).lo) → (0 < k → (M.getD (k - 1) default).lo ≤ x.lo) → insS M x = wayS M x k
  | [], k, _, hk, _, _ => by
    have : k = 0 := by simpa using hk
    subst this; rfl
  | y :: r, 0, _, _, h1, _ => by
    have := h1 0 (Nat.le_refl _) (by simp)
    show (if y.lo ≤ x.lo then _ else _) = _
    rw [if_neg (by
      have e : ((y :: r).getD 0 default) = y := rfl
      rw [e] at this; omega)]; rfl
  | y :: r, k + 1, hs, hk, h1, h2 => by
    have hs := List.pairwise_cons.1 hs
    have hy : y.lo ≤ x.lo := by
      have h3 := h2 (by omega)
      rw [Nat.add_sub_cancel] at h3
      cases k with
      | zero => exact h3
      | succ k =>
        have hk' : k < r.length := by simp at hk; omega
        have e : (y :: r).getD (k + 1) default = r[k]'hk' := by
          rw [List.getD_cons_succ, List.getD_eq_getElem?_getD, List.getElem?_eq_getElem hk']; rfl
        rw [e] at h3
        exact Int.le_trans (hs.1 _ (List.getElem_mem hk')) h3
    show (if y.lo ≤ x.lo then y :: insS r x else _) = _
    rw [if_pos hy, insS_way (M := r) (k := k) hs.2 (by simpa using hk) (fun i hi hl => by
      have := h1 (i + 1) (by omega) (by simpa using hl)
      rwa [List.getD_cons_succ] at this) (fun h0 => by
      have := h2 (by omega)
      rw [Nat.add_sub_cancel] at this
      obtain ⟨j, rfl⟩ : ∃ j, k = j + 1 := ⟨k - 1, by omega⟩
      rwa [List.getD_cons_succ] at this)]
    rfl
theorem sortS_push (l : List Sp) (x : Sp) : sortS (l ++ [x]) = insS (sortS l) x := by unfold sortS; rw [List.foldl_append]; rfl
theorem sortS_len (l : List Sp) : (sortS l).length = l.length := (sortS_perm l).length_eq
end Go.Proofs.YtaahjlhfmkjefaaDoor
/- The plain law of the truth: a hidden load, what a pillow shows of it, and what is said of it. No program in sight. -/
namespace Go.Proofs.YtaahjlhfmkjefaaDoor
set_option linter.unusedSimpArgs false
set_option linter.unusedVariables false
/-! ### a hidden load -/
structure Tr where
  noise : Int
  slab : Int
  jump : Int
  faults : Int
  first : Int
  changes : List Int
  states : List Int
  errors : List Int
  carried : List Int
  shown : List Int
  slack : Int
instance : Inhabited Tr := ⟨⟨0, 0, 0, 0, 0, [], [], [], [], [], 0⟩⟩
end Go.Proofs.YtaahjlhfmkjefaaDoor
