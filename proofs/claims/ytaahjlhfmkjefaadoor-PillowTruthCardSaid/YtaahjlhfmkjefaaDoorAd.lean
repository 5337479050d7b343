/- The plain law: levels of beginnings, trees, hidden loads. -/
import Derived.Test.YtaahjlhfmkjefaaDoorAc
set_option linter.unusedVariables false
set_option linter.unusedSimpArgs false
set_option linter.unusedSectionVars false
/- The plain law: levels of beginnings, one beginning and one state at a time; trees; spans put in order by swaps. No program in sight. -/
namespace Go.Proofs.YtaahjlhfmkjefaaDoor
set_option linter.unusedSimpArgs false
set_option linter.unusedVariables false
/-! ### beginnings of a pillow -/
/-! ### trees -/
/-! ### spans put in order, by swaps -/
end Go.Proofs.YtaahjlhfmkjefaaDoor
/- The plain law of the truth: a hidden load, what a pillow shows of it, and what is said of it. No program in sight. -/
namespace Go.Proofs.YtaahjlhfmkjefaaDoor
set_option linter.unusedSimpArgs false
set_option linter.unusedVariables false
theorem joinGo_head (l : List Sp) : ∀ c, ((joinGo c l).getD 0 default).lo = c.lo := by
  induction l with
  | nil => exact fun c => rfl
  | cons x r ih =>
    intro c
    unfold joinGo
    split
    · rw [ih]
    · rfl
theorem joinGo_ends : ∀ (l : List Sp) (c : Sp), srt (c :: l) → inW (c :: l) → ∀ z ∈ joinGo c l, c.lo ≤ z.lo ∧ z.lo ≤ z.hi ∧ z.hi ≤ (lastS (joinGo c l)).hi
  | [], c, _, hi, z, hz => by
    have hc := hi c (List.mem_cons_self ..)
    rw [List.mem_singleton.1 hz]
    exact ⟨Int.le_refl _, hc.2.1, Int.le_refl _⟩
  | x :: r, c, hs, hi, z, hz => by
    have h1 := List.pairwise_cons.1 hs
    have h2 := List.pairwise_cons.1 h1.2
    have hc := hi c (List.mem_cons_self ..)
    have hx := hi x (List.mem_cons_of_mem _ (List.mem_cons_self ..))
    have hcx := h1.1 x (List.mem_cons_self ..)
    unfold joinGo at hz ⊢
    split at hz
    · rename_i hj
      rw [if_pos hj]
      refine joinGo_ends r ⟨c.lo, max c.hi x.hi⟩ (List.pairwise_cons.2 ⟨fun y hy => h1.1 y (List.mem_cons_of_mem _ hy), h2.2⟩) (fun y hy => ?_) z hz
      rcases List.mem_cons.1 hy with rfl | hy
      · refine ⟨hc.1, ?_, ?_⟩
        · show c.lo ≤ max c.hi x.hi; omega
        · show max c.hi x.hi ≤ _; omega
      · exact hi y (List.mem_cons_of_mem _ (List.mem_cons_of_mem _ hy))
    · rename_i hj
      rw [if_neg hj, lastS_cons c (joinGo_ne r x)]
      have ih := joinGo_ends r x h1.2 fun y hy => hi y (List.mem_cons_of_mem _ hy)
      have hl : lastS (joinGo x r) ∈ joinGo x r := by
        unfold lastS
        have hp := List.length_pos_iff.2 (joinGo_ne r x)
        rw [List.getD_eq_getElem?_getD, List.getElem?_eq_getElem (by omega)]
        exact List.getElem_mem _
      have h3 := ih _ hl
      rcases List.mem_cons.1 hz with rfl | hz
      · exact ⟨Int.le_refl _, hc.2.1, by omega⟩
      · have h4 := ih z hz
        exact ⟨by omega, h4.2⟩
theorem united_hull {l : List Sp} (h : inW l) {z : Sp} (hz : z ∈ unitedV l) : ((unitedV l).getD 0 default).lo ≤ z.lo ∧ z.hi ≤ ((unitedV l).getD ((unitedV l).length - 1) default).hi := by
  have hp := sortS_perm l
  have hs := sortS_srt l
  have hi : inW (sortS l) := fun x hx => h x (hp.mem_iff.1 hx)
  unfold unitedV at hz ⊢
  cases hl : sortS l with
  | nil => rw [hl] at hz; cases hz
  | cons a m =>
    rw [hl] at hz hs hi
    have h1 := joinGo_ends m a hs hi z hz
    have h2 := joinGo_head m a
    show ((joinGo a m).getD 0 default).lo ≤ z.lo ∧ z.hi ≤ (lastS (joinGo a m)).hi
    rw [h2]
    exact ⟨h1.1, h1.2.2⟩
/-! ### a hidden load -/
structure Tr where
  noise : Int
  slab : Int
  jump : Int
  faults : Int
  first : Int
  changes : List Int
  states : List Int
  errors : List Int
  carried : List Int
  shown : List Int
  slack : Int
instance : Inhabited Tr := ⟨⟨0, 0, 0, 0, 0, [], [], [], [], [], 0⟩⟩
/-- The hidden load, day by day. -/
def ldT (t : Tr) : Nat → Int
  | 0 => t.first
  | i + 1 => ldT t i + t.changes.getD i 0
def shT (t : Tr) (i : Nat) : Int := if t.states.getD i 0 ≠ 2 then ldT t i - t.carried.getD i 0 + t.errors.getD i 0 else t.shown.getD i 0
def logT (t : Tr) (n : Nat) : List Sh := (List.range n).map fun (i : Nat) => (⟨(i : Int), shT t i⟩ : Sh)
def wT (t : Tr) (n : Nat) : List Sp := (List.range n).map fun (i : Nat) => ⟨t.changes.getD i 0 - t.slack, t.changes.getD i 0 + t.slack⟩
def ldsT (t : Tr) (n : Nat) : List Int := (List.range n).map (ldT t)
def plT (t : Tr) (n : Nat) : Pl := ⟨0, 0, t.noise, t.slab, t.jump, t.faults, logT t n⟩
theorem logT_len (t : Tr) (n : Nat) : (logT t n).length = n := by simp [logT]
theorem wT_len (t : Tr) (n : Nat) : (wT t n).length = n := by simp [wT]
theorem ldsT_len (t : Tr) (n : Nat) : (ldsT t n).length = n := by simp [ldsT]
theorem logT_succ (t : Tr) (n : Nat) : logT t (n + 1) = logT t n ++ [⟨n, shT t n⟩] := by unfold logT; rw [List.range_succ, List.map_append]; rfl
theorem wT_succ (t : Tr) (n : Nat) : wT t (n + 1) = wT t n ++ [⟨t.changes.getD n 0 - t.slack, t.changes.getD n 0 + t.slack⟩] := by unfold wT; rw [List.range_succ, List.map_append]; rfl
theorem ldsT_succ (t : Tr) (n : Nat) : ldsT t (n + 1) = ldsT t n ++ [ldT t n] := by unfold ldsT; rw [List.range_succ, List.map_append]; rfl
theorem logT_get {t : Tr} {n i : Nat} (h : i < n) : (logT t n).getD i default = ⟨i, shT t i⟩ := by unfold logT; rw [List.getD_eq_getElem?_getD, List.getElem?_map, List.getElem?_range h]; rfl
theorem wT_get {t : Tr} {n i : Nat} (h : i < n) : (wT t n).getD i default = ⟨t.changes.getD i 0 - t.slack, t.changes.getD i 0 + t.slack⟩ := by unfold wT; rw [List.getD_eq_getElem?_getD, List.getElem?_map, List.getElem?_range h]; rfl
theorem ldsT_get {t : Tr} {n i : Nat} (h : i < n) : (ldsT t n).getD i 0 = ldT t i := by unfold ldsT; rw [List.getD_eq_getElem?_getD, List.getElem?_map, List.getElem?_range h]; rfl
/-- What is drawn for a day is as it should be. -/
def dayT (t : Tr) (i : Nat) : Prop :=
  (0 < i → -65536 + t.slack ≤ t.changes.getD (i - 1) 0 ∧ t.changes.getD (i - 1) 0 ≤ 65536 - t.slack) ∧ (0 ≤ ldT t i ∧ ldT t i ≤ 65536) ∧
  (t.states.getD i 0 ≠ 2 → (-t.noise ≤ t.errors.getD i 0 ∧ t.errors.getD i 0 ≤ t.noise) ∧ (0 ≤ t.carried.getD i 0 ∧ t.carried.getD i 0 ≤ t.slab) ∧ (t.states.getD i 0 = 0 → t.carried.getD i 0 = 0))
theorem truth_w {t : Tr} {n : Nat} (hs : 0 ≤ t.slack) (h : ∀ i < n, dayT t i) : wOk (plT t n) (wT t (n - 1)) := by
  refine ⟨by rw [wT_len]; show n - 1 = (logT t n).length - 1; rw [logT_len], fun i hi => ?_⟩
  rw [wT_len] at hi
  rw [wT_get hi]
  have h1 := (h (i + 1) (by omega)).1 (by omega)
  rw [Nat.add_sub_cancel] at h1
  simp only
  omega
theorem truth_path {t : Tr} {n : Nat} (hs : 0 ≤ t.slack) (hn : t.states.length = n) (h : ∀ i < n, dayT t i) (hc : ∀ i < n, stepOk (plT t n) t.states i) : path (plT t n) (wT t (n - 1)) t.states (ldT t) := by
  refine ⟨fun i hi => ?_, fun i hi => ?_⟩
  · have h1 := h i (by omega)
    have h2 := hc i (by omega)
    have e : ((plT t n).log.getD i default).wt = shT t i := by show ((logT t n).getD i default).wt = _; rw [logT_get (by omega)]
    unfold loadsI
    rw [e]
    show inS _ (if t.states.getD i 0 = 0 then (⟨max (shT t i - t.noise) 0, min (shT t i + t.noise) 65536⟩ : Sp) else if t.states.getD i 0 = 1 then ⟨max (shT t i - t.noise) 0, min (shT t i + t.noise + t.slab) 65536⟩ else ⟨0, 65536⟩)
    unfold stepOk at h2
    unfold dayT at h1
    unfold shT
    unfold inS
    split
    · rename_i h0
      rw [if_pos (by omega)]
      have h3 := h1.2.2 (by omega)
      have h4 := h3.2.2 h0
      simp only
      omega
    · split
      · rename_i h0 h01
        rw [if_pos (by omega)]
        have h3 := h1.2.2 (by omega)
        simp only
        omega
      · simp only
        omega
  · rw [wT_get (by omega)]
    show inS (ldT t i + t.changes.getD i 0 - ldT t i) _
    unfold inS
    simp only
    omega
end Go.Proofs.YtaahjlhfmkjefaaDoor
