/- The plain law: joins, visits. -/
import Derived.Test.YtaahjlhfmkjefaaGreatDoorAa
set_option linter.unusedVariables false
set_option linter.unusedSimpArgs false
set_option linter.unusedSectionVars false
/- Spans joined one by one. No program in sight. -/
namespace Go.Proofs.YtaahjlhfmkjefaaGreatDoor
set_option linter.unusedSimpArgs false
set_option linter.unusedVariables false
def lastS (o : List Sp) : Sp := o.getD (o.length - 1) default
/-- A span more, behind those that are joined. -/
def pushS (o : List Sp) (x : Sp) : List Sp := if 0 < o.length ∧ x.lo ≤ (lastS o).hi + 1 then o.set (o.length - 1) ⟨(lastS o).lo, max (lastS o).hi x.hi⟩ else o ++ [x]
theorem lastS_cons (c : Sp) {o : List Sp} (h : o ≠ []) : lastS (c :: o) = lastS o := by
  obtain ⟨y, r, rfl⟩ := List.exists_cons_of_ne_nil h
  rfl
theorem pushS_cons (c x : Sp) {o : List Sp} (h : o ≠ []) : pushS (c :: o) x = c :: pushS o x := by
  unfold pushS
  rw [lastS_cons c h]
  obtain ⟨y, r, rfl⟩ := List.exists_cons_of_ne_nil h
  by_cases hx : x.lo ≤ (lastS (y :: r)).hi + 1
  · rw [if_pos ⟨by simp, hx⟩, if_pos ⟨by simp, hx⟩]
    rfl
  · rw [if_neg (fun e => hx e.2), if_neg (fun e => hx e.2)]
    rfl
theorem joinGo_ne (l : List Sp) : ∀ c, joinGo c l ≠ [] := by
  induction l with
  | nil => intro c; simp [joinGo]
  | cons y r ih =>
    intro c
    unfold joinGo
    split
    · exact ih _
    · simp
theorem joinGo_push (x : Sp) : ∀ (l : List Sp) (c : Sp), joinGo c (l ++ [x]) = pushS (joinGo c l) x
  | [], c => by
    show (if x.lo ≤ c.hi + 1 then joinGo ⟨c.lo, max c.hi x.hi⟩ [] else c :: joinGo x []) = pushS [c] x
    unfold pushS
    have e : lastS [c] = c := rfl
    rw [e]
    by_cases h : x.lo ≤ c.hi + 1
    · rw [if_pos h, if_pos ⟨by simp, h⟩]; rfl
    · rw [if_neg h, if_neg (fun e => h e.2)]; rfl
  | y :: r, c => by
    rw [List.cons_append]
    unfold joinGo
    split
    · exact joinGo_push x r _
    · rw [joinGo_push x r y, pushS_cons c x (joinGo_ne r y)]
theorem joinS_push (l : List Sp) (x : Sp) : joinS (l ++ [x]) = pushS (joinS l) x := by
  cases l with
  | nil => rfl
  | cons y r => exact joinGo_push x r y
theorem joinS_step {l : List Sp} {i : Nat} (h : i < l.length) : joinS (l.take (i + 1)) = pushS (joinS (l.take i)) (l.getD i default) := by
  rw [List.take_add_one, List.getElem?_eq_getElem h, List.getD_eq_getElem?_getD, List.getElem?_eq_getElem h]
  exact joinS_push _ _
theorem joinS_in {l : List Sp} (h : inW l) : inW (joinS l) ∧ (joinS l).length ≤ 32769 := by
  cases l with
  | nil => exact ⟨fun x hx => (by cases hx), by simp [joinS]⟩
  | cons c r =>
    refine ⟨joinGo_in r c h, ?_⟩
    have h1 := joinGo_len r c h
    have h2 := h c (List.mem_cons_self ..)
    show (joinGo c r).length ≤ 32769
    omega
theorem inW.take {l : List Sp} (h : inW l) (n : Nat) : inW (l.take n) := fun x hx => h x (List.mem_of_mem_take hx)
theorem inW.perm {l m : List Sp} (h : inW l) (hp : m.Perm l) : inW m := fun x hx => h x (hp.mem_iff.1 hx)
theorem inW.get {l : List Sp} (h : inW l) {i : Nat} (hi : i < l.length) : 0 ≤ (l.getD i default).lo ∧ (l.getD i default).lo ≤ (l.getD i default).hi ∧ (l.getD i default).hi ≤ 65536 := by
  rw [List.getD_eq_getElem?_getD, List.getElem?_eq_getElem hi]
  exact h _ (List.getElem_mem hi)
end Go.Proofs.YtaahjlhfmkjefaaGreatDoor
/- How the cases that remain are found: one state tried behind a beginning. No program in sight. -/
namespace Go.Proofs.YtaahjlhfmkjefaaGreatDoor
set_option linter.unusedSimpArgs false
set_option linter.unusedVariables false
/-- A beginning that may go on. -/
def begun (p : Pl) (w : List Sp) (l : List Int) : Prop := (∀ j < l.length, stepOk p l j) ∧ alive p w l
theorem begun_nil (p : Pl) (w : List Sp) : begun p w [] := ⟨fun j h => (by cases h), fun j h => (by cases h)⟩
theorem good_begun {p : Pl} {w : List Sp} {l : List Int} (h : good p w l) : begun p w l := ⟨h.1, h.2.2⟩
theorem getD_end {l : List Int} {s : Int} {i : Nat} (h : l.length = i) : (l ++ [s]).getD i 0 = s := by rw [← h]; exact getD_last
theorem vis_good {p : Pl} {w : List Sp} {l : List Int} {s : Int} {i left : Nat} (hi : l.length = i) (hb : begun p w l) (hs : stepOk p (l ++ [s]) i) (hc : (cnt2 (l ++ [s]) : Int) + left = p.faults) (hf : full (fwd p w (l ++ [s]) i)) : good p w (l ++ [s]) := by
  subst hi
  refine ⟨fun j hj => ?_, by omega, fun j hj => ?_⟩
  · rw [List.length_append] at hj
    by_cases e : j = l.length
    · rw [e]; exact hs
    · exact (stepOk_app (by simp at hj; omega)).2 (hb.1 j (by simp at hj; omega))
  · rw [List.length_append] at hj
    by_cases e : j = l.length
    · rw [e]; exact hf
    · rw [fwd_app (by simp at hj; omega)]; exact hb.2 j (by simp at hj; omega)
theorem vis_dead {p : Pl} {w : List Sp} {l : List Int} {s : Int} {i k left : Nat} (hw : ∀ i, full (w.getD i default)) (hi : l.length = i) (hc : (cnt2 (l ++ [s]) : Int) + left = p.faults)
    (ha : ∀ y ∈ chF p w k i s left, ¬ full (meetS (fwd p w (l ++ [s]) i) y)) : sub p w k l s = [] := by
  unfold sub
  by_cases hg : good p w (l ++ [s])
  · rw [if_pos hg]
    have e1 : (l ++ [s]).length - 1 = i := by rw [List.length_append, ← hi]; rfl
    refine compl_none hw (by simp) hc ?_ hg
    rw [e1, getD_end hi]
    exact ha
  · rw [if_neg hg]
theorem vis_leaf {p : Pl} {w : List Sp} {l : List Int} {s : Int} (hg : good p w (l ++ [s])) : sub p w 0 l s = [l ++ [s]] := by
  unfold sub
  rw [if_pos hg]; rfl
/-- What the states that follow give. -/
def visN (p : Pl) (w : List Sp) (k : Nat) (l : List Int) (ts : List (Int × Nat)) : List (List Int) := ts.flatMap fun t => sub p w k l t.1
theorem visN_app (p : Pl) (w : List Sp) (k : Nat) (l : List Int) (ts : List (Int × Nat)) (x : Int × Nat) : visN p w k l (ts ++ [x]) = visN p w k l ts ++ sub p w k l x.1 := by
  unfold visN
  rw [List.flatMap_append]
  simp
theorem vis_node {p : Pl} {w : List Sp} {l : List Int} {s : Int} {i k left : Nat} (hi : l.length = i) (hc : (cnt2 (l ++ [s]) : Int) + left = p.faults) (hg : good p w (l ++ [s])) : sub p w (k + 1) l s = visN p w k (l ++ [s]) (nexts p i s left) := by
  unfold sub
  rw [if_pos hg, compl_succ]
  unfold visN nexts
  rw [List.flatMap_assoc]
  refine flatMap_congr' fun t _ => ?_
  have hl : (l ++ [s]).length = i + 1 := by rw [List.length_append, hi]; rfl
  cases hn : next1 p i s left t with
  | nil => rw [sub_none hl (getD_end hi) hc hn]; rfl
  | cons x r =>
    have h1 := next1_some (p := p) (i := i) (s := s) (left := left) (t := t) (x := x) (by rw [hn]; exact List.mem_cons_self ..)
    rw [← hn, h1.2.2.1, List.flatMap_cons, List.flatMap_nil, List.append_nil, h1.1]
/-- What a state that follows is. -/
theorem nexts_step {p : Pl} {w : List Sp} {l : List Int} {s : Int} {i left : Nat} {x : Int × Nat} (hi : l.length = i) (hc : (cnt2 (l ++ [s]) : Int) + left = p.faults) (hx : x ∈ nexts p i s left) :
    (0 ≤ x.1 ∧ x.1 ≤ 2) ∧ x.2 ≤ left ∧ stepOk p (l ++ [s] ++ [x.1]) (i + 1) ∧ (cnt2 (l ++ [s] ++ [x.1]) : Int) + x.2 = p.faults := by
  obtain ⟨t, ht, hx⟩ := List.mem_flatMap.1 hx
  have h1 := next1_some hx
  have hl : (l ++ [s]).length = i + 1 := by rw [List.length_append, hi]; rfl
  have ht3 : 0 ≤ t ∧ t ≤ 2 := by
    have : t = 0 ∨ t = 1 ∨ t = 2 := by simpa using ht
    omega
  have h4 := h1.2.2.2
  rw [h1.1]
  refine ⟨ht3, by split at h4 <;> omega, ⟨?_, fun e => by omega, fun _ hne => ?_⟩, ?_⟩
  · rw [getD_end hl]; exact ht3
  · rw [getD_end hl, Nat.add_sub_cancel, getD_app (by omega), getD_end hi] at hne
    rw [Nat.add_sub_cancel]
    exact h1.2.1.resolve_left hne
  · rw [cnt2_app]
    by_cases e : t = 2
    · rw [if_pos e] at h4
      have : cnt2 [t] = 1 := by rw [e]; rfl
      omega
    · rw [if_neg e] at h4
      have : cnt2 [t] = 0 := by unfold cnt2; simp [e]
      omega
theorem meet_comm (x y : Sp) : meetS x y = meetS y x := by unfold meetS; rw [Int.max_comm, Int.min_comm]
theorem fwd_next {p : Pl} {w : List Sp} {l : List Int} {t : Int} {i : Nat} (hi : l.length = i + 1) : meetS (addS (fwd p w l i) (w.getD i default)) (loadsI p (i + 1) t) = fwd p w (l ++ [t]) (i + 1) := by
  show _ = meetS (loadsI p (i + 1) ((l ++ [t]).getD (i + 1) 0)) (addS (fwd p w (l ++ [t]) i) (w.getD i default))
  rw [getD_end hi, fwd_app (by omega), meet_comm]
theorem full_meet {x y : Sp} (h : full (meetS x y)) : full x := by unfold full meetS at *; simp only at h; omega
theorem lim_le {m : Nat} {out l : List (List Int)} : (lim m out l).length ≤ m := lim_len m out l
end Go.Proofs.YtaahjlhfmkjefaaGreatDoor
