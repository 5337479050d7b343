/- The plain law: loads, cases, what contradicts. -/
import Derived.Test.YtaahjlhfmkjefaaGreatDoorGa
set_option linter.unusedVariables false
set_option linter.unusedSimpArgs false
set_option linter.unusedSectionVars false
/- Pillows: what they are, their cases and the loads that these allow. No program in sight. -/
namespace Go.Proofs.YtaahjlhfmkjefaaGreatDoor
set_option linter.unusedSimpArgs false
set_option linter.unusedVariables false
structure Sp where
  lo : Int
  hi : Int
deriving DecidableEq
instance : Inhabited Sp := ⟨⟨0, 0⟩⟩
structure Sh where
  day : Int
  wt : Int
deriving DecidableEq
instance : Inhabited Sh := ⟨⟨0, 0⟩⟩
structure Pl where
  no : Int
  cell : Int
  noise : Int
  slab : Int
  jump : Int
  faults : Int
  log : List Sh
deriving DecidableEq
instance : Inhabited Pl := ⟨⟨0, 0, 0, 0, 0, 0, []⟩⟩
/-- A pillow that is valid. -/
def pHead (p : Pl) : Prop := (0 ≤ p.no ∧ p.no ≤ 4095) ∧ (0 ≤ p.cell ∧ p.cell ≤ 4095) ∧ (0 ≤ p.noise ∧ p.noise ≤ 65536) ∧ (0 ≤ p.slab ∧ p.slab ≤ 65536) ∧ (0 ≤ p.jump ∧ p.jump ≤ 65536) ∧ (0 ≤ p.faults ∧ p.faults ≤ 32) ∧ p.log.length ≤ 32
instance (p : Pl) : Decidable (pHead p) := by unfold pHead; infer_instance
def logOk (l : List Sh) (i : Nat) : Prop := (0 ≤ (l.getD i default).day ∧ (l.getD i default).day ≤ 1048576) ∧ (0 ≤ (l.getD i default).wt ∧ (l.getD i default).wt ≤ 65536) ∧ (0 < i → (l.getD (i - 1) default).day < (l.getD i default).day)
instance (l : List Sh) (i : Nat) : Decidable (logOk l i) := by unfold logOk; infer_instance
def pOk (p : Pl) : Prop := pHead p ∧ ∀ i < p.log.length, logOk p.log i
instance (p : Pl) : Decidable (pOk p) := by unfold pOk; infer_instance
/-- Can the state change behind an entry? -/
def shiftI (p : Pl) (i : Nat) : Prop := (p.log.getD (i + 1) default).wt - (p.log.getD i default).wt = 0 ∨ p.jump < (p.log.getD (i + 1) default).wt - (p.log.getD i default).wt ∨ p.jump < -((p.log.getD (i + 1) default).wt - (p.log.getD i default).wt)
instance (p : Pl) (i : Nat) : Decidable (shiftI p i) := by unfold shiftI; infer_instance
/-- The loads that a state allows at an entry. -/
def loadsI (p : Pl) (i : Nat) (s : Int) : Sp :=
  if s = 0 then ⟨max ((p.log.getD i default).wt - p.noise) 0, min ((p.log.getD i default).wt + p.noise) 65536⟩
  else if s = 1 then ⟨max ((p.log.getD i default).wt - p.noise) 0, min ((p.log.getD i default).wt + p.noise + p.slab) 65536⟩
  else ⟨0, 65536⟩
def meetS (x y : Sp) : Sp := ⟨max x.lo y.lo, min x.hi y.hi⟩
def addS (x y : Sp) : Sp := ⟨x.lo + y.lo, x.hi + y.hi⟩
def lessS (x y : Sp) : Sp := ⟨x.lo - y.hi, x.hi - y.lo⟩
/-- What makes a list of states a case, up to an entry. -/
def stepOk (p : Pl) (l : List Int) (i : Nat) : Prop := (0 ≤ l.getD i 0 ∧ l.getD i 0 ≤ 2) ∧ (i = 0 → l.getD 0 0 ≠ 2) ∧ (0 < i → l.getD i 0 ≠ l.getD (i - 1) 0 → shiftI p (i - 1))
instance (p : Pl) (l : List Int) (i : Nat) : Decidable (stepOk p l i) := by unfold stepOk; infer_instance
def cnt2 (l : List Int) : Nat := l.countP (fun s => decide (s = 2))
def caseOk (p : Pl) (l : List Int) : Prop := l.length = p.log.length ∧ (∀ i < l.length, stepOk p l i) ∧ (cnt2 l : Int) ≤ p.faults
instance (p : Pl) (l : List Int) : Decidable (caseOk p l) := by unfold caseOk; infer_instance
/-- Weather that is valid. -/
def wOk (p : Pl) (w : List Sp) : Prop := w.length = p.log.length - 1 ∧ ∀ i < w.length, (w.getD i default).lo ≤ (w.getD i default).hi ∧ -65536 ≤ (w.getD i default).lo ∧ (w.getD i default).hi ≤ 65536
instance (p : Pl) (w : List Sp) : Decidable (wOk p w) := by unfold wOk; infer_instance
/-- The loads at an entry that the entries ahead of it allow, in a case. -/
def fwd (p : Pl) (w : List Sp) (l : List Int) : Nat → Sp
  | 0 => loadsI p 0 (l.getD 0 0)
  | i + 1 => meetS (loadsI p (i + 1) (l.getD (i + 1) 0)) (addS (fwd p w l i) (w.getD i default))
def full (x : Sp) : Prop := x.lo ≤ x.hi
instance (x : Sp) : Decidable (full x) := by unfold full; infer_instance
/-- A case remains. -/
def alive (p : Pl) (w : List Sp) (l : List Int) : Prop := ∀ i < l.length, full (fwd p w l i)
instance (p : Pl) (w : List Sp) (l : List Int) : Decidable (alive p w l) := by unfold alive; infer_instance
/-- The ends of loads, from behind; k entries behind the one that is asked. -/
def bwd (p : Pl) (w : List Sp) (l : List Int) : Nat → Nat → Sp
  | 0, i => fwd p w l i
  | k + 1, i => meetS (fwd p w l i) (lessS (bwd p w l k (i + 1)) (w.getD i default))
def endsV (p : Pl) (w : List Sp) (l : List Int) : List Sp := (List.range l.length).map fun i => bwd p w l (l.length - 1 - i) i
/-- The loads that are found from one entry on to another one, by the weather alone. -/
def sumW (w : List Sp) (i : Nat) : Nat → Sp → Sp
  | 0, x => x
  | k + 1, x => addS (sumW w i k x) (w.getD (i + k) default)
def contra (p : Pl) (w : List Sp) (l : List Int) (i k : Nat) : Prop := ¬ full (meetS (sumW w i (k - i) (loadsI p i (l.getD i 0))) (loadsI p k (l.getD k 0)))
instance (p : Pl) (w : List Sp) (l : List Int) (i k : Nat) : Decidable (contra p w l i k) := by unfold contra; infer_instance
/-- The error of a pillow, its weather; of a case. -/
def tellV (p : Pl) (w : List Sp) : Int := if pOk p then (if wOk p w then 0 else 1) else 30
def toldV (p : Pl) (w : List Sp) (l : List Int) : Int := if tellV p w ≠ 0 then tellV p w else if caseOk p l then 0 else 31

/-! ### spans, put in order and joined -/
def insS (l : List Sp) (x : Sp) : List Sp :=
  match l with
  | [] => [x]
  | y :: r => if y.lo ≤ x.lo then y :: insS r x else x :: y :: r
def sortS (l : List Sp) : List Sp := l.foldl insS []
def joinGo (c : Sp) : List Sp → List Sp
  | [] => [c]
  | x :: r => if x.lo ≤ c.hi + 1 then joinGo ⟨c.lo, max c.hi x.hi⟩ r else c :: joinGo x r
def joinS : List Sp → List Sp
  | [] => []
  | x :: r => joinGo x r
def unitedV (l : List Sp) : List Sp := joinS (sortS l)
def srt (l : List Sp) : Prop := l.Pairwise fun x y => x.lo ≤ y.lo
theorem insS_mem {l : List Sp} {x y : Sp} : y ∈ insS l x ↔ y = x ∨ y ∈ l := by
  induction l with
  | nil => simp [insS]
  | cons z r ih =>
    unfold insS
    split
    · rw [List.mem_cons, ih, List.mem_cons]
      constructor
      · rintro (h | h | h) <;> simp [h]
      · rintro (h | h | h) <;> simp [h]
    · simp
theorem insS_perm (l : List Sp) (x : Sp) : (insS l x).Perm (x :: l) := by
  induction l with
  | nil => exact List.Perm.refl _
  | cons z r ih =>
    unfold insS
    split
    · exact (ih.cons z).trans (List.Perm.swap x z r)
    · exact List.Perm.refl _
theorem insS_srt {l : List Sp} (h : srt l) (x : Sp) : srt (insS l x) := by
  induction l with
  | nil => exact List.pairwise_singleton _ _
  | cons z r ih =>
    unfold insS
    have hz := List.pairwise_cons.1 h
    split
    · rename_i hzx
      refine List.pairwise_cons.2 ⟨fun y hy => ?_, ih hz.2⟩
      rcases insS_mem.1 hy with rfl | hy
      · exact hzx
      · exact hz.1 y hy
    · rename_i hzx
      refine List.pairwise_cons.2 ⟨fun y hy => ?_, h⟩
      rcases List.mem_cons.1 hy with rfl | hy
      · omega
      · have := hz.1 y hy; omega
theorem sortS_foldl (l : List Sp) : ∀ acc, srt acc → srt (l.foldl insS acc) ∧ (l.foldl insS acc).Perm (l ++ acc) := by
  induction l with
  | nil => exact fun acc h => ⟨h, List.Perm.refl _⟩
  | cons x r ih =>
    intro acc h
    obtain ⟨h1, h2⟩ := ih (insS acc x) (insS_srt h x)
    refine ⟨h1, h2.trans ?_⟩
    exact ((insS_perm acc x).append_left r).trans (List.perm_middle)
theorem sortS_srt (l : List Sp) : srt (sortS l) := (sortS_foldl l [] List.Pairwise.nil).1
theorem sortS_perm (l : List Sp) : (sortS l).Perm l := by
  have := (sortS_foldl l [] List.Pairwise.nil).2
  rwa [List.append_nil] at this
/-- Elements that begin alike may be swapped. -/
theorem joinGo_swap (c x y : Sp) (r : List Sp) (e : x.lo = y.lo) (hx : x.lo ≤ x.hi + 1) (hy : y.lo ≤ y.hi + 1) : joinGo c (x :: y :: r) = joinGo c (y :: x :: r) := by
  unfold joinGo
  by_cases h : x.lo ≤ c.hi + 1
  · rw [if_pos h, if_pos (by omega)]
    unfold joinGo
    rw [if_pos (by show y.lo ≤ max c.hi x.hi + 1; omega), if_pos (by show x.lo ≤ max c.hi y.hi + 1; omega)]
    have : max (max c.hi x.hi) y.hi = max (max c.hi y.hi) x.hi := by omega
    simp only [this]
  · rw [if_neg h, if_neg (by omega)]
    unfold joinGo
    rw [if_pos (by omega), if_pos (by omega)]
    have : max x.hi y.hi = max y.hi x.hi := by omega
    rw [e, this]
theorem joinGo_front (a : Sp) (ha : a.lo ≤ a.hi + 1) (r : List Sp) : ∀ (pre : List Sp) (c : Sp), (∀ x ∈ pre, x.lo = a.lo ∧ x.lo ≤ x.hi + 1) → joinGo c (pre ++ a :: r) = joinGo c (a :: (pre ++ r))
  | [], c, _ => rfl
  | x :: pre, c, h => by
    have hx := h x (List.mem_cons_self ..)
    have ih := fun c => joinGo_front a ha r pre c fun y hy => h y (List.mem_cons_of_mem _ hy)
    rw [List.cons_append, List.cons_append, joinGo_swap c a x _ hx.1.symm ha hx.2]
    show (if x.lo ≤ c.hi + 1 then joinGo _ (pre ++ a :: r) else c :: joinGo x (pre ++ a :: r)) = (if x.lo ≤ c.hi + 1 then joinGo _ (a :: (pre ++ r)) else c :: joinGo x (a :: (pre ++ r)))
    rw [ih, ih]
def near (l : List Sp) : Prop := ∀ x ∈ l, x.lo ≤ x.hi + 1
theorem joinGo_perm : ∀ (l m : List Sp) (c : Sp), srt l → srt m → l.Perm m → near l → joinGo c l = joinGo c m
  | [], m, c, _, _, hp, _ => by rw [hp.nil_eq]
  | a :: l, m, c, hl, hm, hp, hn => by
    have ham : a ∈ m := hp.mem_iff.1 (List.mem_cons_self ..)
    obtain ⟨pre, r, rfl⟩ := List.append_of_mem ham
    have hla := List.pairwise_cons.1 hl
    have hpre : ∀ x ∈ pre, x.lo = a.lo ∧ x.lo ≤ x.hi + 1 := fun x hx => by
      have h1 : x.lo ≤ a.lo := (List.pairwise_append.1 hm).2.2 x hx a (List.mem_cons_self ..)
      have hx2 : x ∈ a :: l := hp.mem_iff.2 (List.mem_append_left _ hx)
      have h2 : a.lo ≤ x.lo := by
        rcases List.mem_cons.1 hx2 with rfl | h
        · exact Int.le_refl _
        · exact hla.1 x h
      exact ⟨by omega, hn x hx2⟩
    rw [joinGo_front a (hn a (List.mem_cons_self ..)) r pre c hpre]
    have hp2 : l.Perm (pre ++ r) := List.Perm.cons_inv (a := a) (hp.trans List.perm_middle)
    have hm2 : srt (pre ++ r) := by
      have h3 := List.pairwise_append.1 hm
      exact List.pairwise_append.2 ⟨h3.1, (List.pairwise_cons.1 h3.2.1).2, fun x hx y hy => h3.2.2 x hx y (List.mem_cons_of_mem _ hy)⟩
    have ih := fun c => joinGo_perm l (pre ++ r) c hla.2 hm2 hp2 fun x hx => hn x (List.mem_cons_of_mem _ hx)
    show (if a.lo ≤ c.hi + 1 then joinGo _ l else c :: joinGo a l) = (if a.lo ≤ c.hi + 1 then joinGo _ (pre ++ r) else c :: joinGo a (pre ++ r))
    rw [ih, ih]
theorem joinS_perm {l m : List Sp} (hl : srt l) (hm : srt m) (hp : l.Perm m) (hn : near l) : joinS l = joinS m := by
  cases l with
  | nil => rw [hp.nil_eq]
  | cons a l =>
    have ham : a ∈ m := hp.mem_iff.1 (List.mem_cons_self ..)
    cases m with
    | nil => cases ham
    | cons b m =>
      have hnm : near (b :: m) := fun x hx => hn x (hp.mem_iff.2 hx)
      have e : a.lo = b.lo := by
        have h1 : a.lo ≤ b.lo := by
          rcases List.mem_cons.1 (hp.mem_iff.2 (List.mem_cons_self .. : b ∈ b :: m)) with h | h
          · rw [h]; exact Int.le_refl _
          · exact (List.pairwise_cons.1 hl).1 b h
        have h2 : b.lo ≤ a.lo := by
          rcases List.mem_cons.1 ham with h | h
          · rw [h]; exact Int.le_refl _
          · exact (List.pairwise_cons.1 hm).1 a h
        omega
      have ha := hn a (List.mem_cons_self ..)
      have hb := hnm b (List.mem_cons_self ..)
      have key := joinGo_perm (a :: l) (b :: m) ⟨a.lo - 10 - max a.hi b.hi * max a.hi b.hi, a.lo - 10⟩ hl hm hp hn
      unfold joinGo at key
      rw [if_neg (by show ¬ a.lo ≤ a.lo - 10 + 1; omega), if_neg (by show ¬ b.lo ≤ a.lo - 10 + 1; omega)] at key
      exact (List.cons.inj key).2
theorem united_of {l m : List Sp} (hm : srt m) (hp : m.Perm l) (hn : near l) : joinS m = unitedV l :=
  joinS_perm hm (sortS_srt l) (hp.trans (sortS_perm l).symm) fun x hx => hn x (hp.mem_iff.1 hx)
end Go.Proofs.YtaahjlhfmkjefaaGreatDoor
/- Pillows: the cases that remain, level by level and one behind the other; from which loads a log can go on. No program in sight. -/
namespace Go.Proofs.YtaahjlhfmkjefaaGreatDoor
set_option linter.unusedSimpArgs false
set_option linter.unusedVariables false
def inS (v : Int) (x : Sp) : Prop := x.lo ≤ v ∧ v ≤ x.hi
def cov (v : Int) (l : List Sp) : Prop := ∃ x ∈ l, inS v x
theorem joinGo_cov {v : Int} : ∀ (l : List Sp) (c : Sp), srt (c :: l) → inS v c ∨ cov v l → cov v (joinGo c l)
  | [], c, _, h => by
    rcases h with h | ⟨x, hx, _⟩
    · exact ⟨c, List.mem_singleton.2 rfl, h⟩
    · cases hx
  | a :: l, c, hs, h => by
    have h1 := List.pairwise_cons.1 hs
    have h2 := List.pairwise_cons.1 h1.2
    have hca := h1.1 a (List.mem_cons_self ..)
    unfold joinGo
    split
    · refine joinGo_cov l _ (List.pairwise_cons.2 ⟨fun x hx => h1.1 x (List.mem_cons_of_mem _ hx), h2.2⟩) ?_
      rcases h with ⟨h3, h4⟩ | ⟨x, hx, h3, h4⟩
      · exact .inl ⟨h3, by show v ≤ max c.hi a.hi; omega⟩
      · rcases List.mem_cons.1 hx with rfl | hx
        · exact .inl ⟨by show c.lo ≤ v; omega, by show v ≤ max c.hi x.hi; omega⟩
        · exact .inr ⟨x, hx, h3, h4⟩
    · rcases h with h | ⟨x, hx, h⟩
      · exact ⟨c, List.mem_cons_self .., h⟩
      · rcases List.mem_cons.1 hx with rfl | hx
        · obtain ⟨y, hy, h⟩ := joinGo_cov l x h1.2 (.inl h)
          exact ⟨y, List.mem_cons_of_mem _ hy, h⟩
        · obtain ⟨y, hy, h⟩ := joinGo_cov l a h1.2 (.inr ⟨x, hx, h⟩)
          exact ⟨y, List.mem_cons_of_mem _ hy, h⟩
theorem united_cov {v : Int} {l : List Sp} (h : cov v l) : cov v (unitedV l) := by
  have hp := sortS_perm l
  have hs := sortS_srt l
  obtain ⟨x, hx, h⟩ := h
  have hx := hp.mem_iff.2 hx
  unfold unitedV
  cases hl : sortS l with
  | nil => rw [hl] at hx; cases hx
  | cons a m =>
    rw [hl] at hx hs
    refine joinGo_cov m a hs ?_
    rcases List.mem_cons.1 hx with rfl | hx
    · exact .inl h
    · exact .inr ⟨x, hx, h⟩

/-! ### beginnings of cases -/
/-- A beginning of a case, that remains. -/
def good (p : Pl) (w : List Sp) (l : List Int) : Prop := (∀ i < l.length, stepOk p l i) ∧ (cnt2 l : Int) ≤ p.faults ∧ alive p w l
instance (p : Pl) (w : List Sp) (l : List Int) : Decidable (good p w l) := by unfold good; infer_instance
def ext (p : Pl) (w : List Sp) (l : List Int) : List (List Int) := ([0, 1, 2].map fun s => l ++ [s]).filter fun m => decide (good p w m)
/-- The beginnings of a length that remain. -/
def lvl (p : Pl) (w : List Sp) : Nat → List (List Int)
  | 0 => [[]]
  | n + 1 => (lvl p w n).flatMap (ext p w)
/-- What becomes of a beginning by so many entries more. -/
def compl (p : Pl) (w : List Sp) : Nat → List Int → List (List Int)
  | 0, l => [l]
  | k + 1, l => (ext p w l).flatMap (compl p w k)
def remV (p : Pl) (w : List Sp) : List (List Int) := lvl p w p.log.length
theorem lvl_compl (p : Pl) (w : List Sp) : ∀ k n, (lvl p w n).flatMap (compl p w k) = lvl p w (n + k)
  | 0, n => by
    show (lvl p w n).flatMap (fun l => [l]) = _
    induction lvl p w n with
    | nil => rfl
    | cons a l ih => rw [List.flatMap_cons, ih]; rfl
  | k + 1, n => by
    show (lvl p w n).flatMap (fun l => (ext p w l).flatMap (compl p w k)) = _
    rw [← List.flatMap_assoc]
    exact (lvl_compl p w k (n + 1)).trans (congrArg _ (by omega))
theorem remV_compl (p : Pl) (w : List Sp) : remV p w = compl p w p.log.length [] := by
  have := lvl_compl p w p.log.length 0
  rw [Nat.zero_add] at this
  exact this.symm.trans (by show [[]].flatMap _ = _; rw [List.flatMap_cons, List.flatMap_nil, List.append_nil])
theorem ext_mem {p : Pl} {w : List Sp} {l m : List Int} : m ∈ ext p w l ↔ good p w m ∧ ∃ s, (s = 0 ∨ s = 1 ∨ s = 2) ∧ m = l ++ [s] := by
  unfold ext
  rw [List.mem_filter, decide_eq_true_iff]
  simp only [List.map_cons, List.map_nil, List.mem_cons, List.not_mem_nil, or_false]
  constructor
  · rintro ⟨h | h | h, hg⟩
    · exact ⟨hg, 0, by simp, h⟩
    · exact ⟨hg, 1, by simp, h⟩
    · exact ⟨hg, 2, by simp, h⟩
  · rintro ⟨hg, s, h | h | h, e⟩
    · subst h; exact ⟨.inl e, hg⟩
    · subst h; exact ⟨.inr (.inl e), hg⟩
    · subst h; exact ⟨.inr (.inr e), hg⟩
theorem lvl_mem {p : Pl} {w : List Sp} : ∀ {n : Nat} {l : List Int}, l ∈ lvl p w n → l.length = n ∧ (n = 0 ∨ good p w l)
  | 0, l, h => by rw [List.mem_singleton.1 h]; exact ⟨rfl, .inl rfl⟩
  | n + 1, l, h => by
    obtain ⟨m, hm, hl⟩ := List.mem_flatMap.1 h
    obtain ⟨hg, s, _, rfl⟩ := ext_mem.1 hl
    exact ⟨by rw [List.length_append, (lvl_mem hm).1]; rfl, .inr hg⟩
/-- The part of a case that lies ahead of an entry. -/
theorem getD_app {α : Type} {l m : List α} {i : Nat} {d : α} (h : i < l.length) : (l ++ m).getD i d = l.getD i d := by
  simp only [List.getD_eq_getElem?_getD]; rw [List.getElem?_append_left h]
theorem getD_last {α : Type} {l : List α} {x d : α} : (l ++ [x]).getD l.length d = x := by
  simp
theorem fwd_app {p : Pl} {w : List Sp} {l m : List Int} : ∀ {i : Nat}, i < l.length → fwd p w (l ++ m) i = fwd p w l i
  | 0, h => by unfold fwd; rw [getD_app h]
  | i + 1, h => by unfold fwd; rw [getD_app h, fwd_app (i := i) (by omega)]
theorem stepOk_app {p : Pl} {l m : List Int} {i : Nat} (h : i < l.length) : stepOk p (l ++ m) i ↔ stepOk p l i := by
  unfold stepOk
  rw [getD_app h, getD_app (i := 0) (by omega), getD_app (i := i - 1) (by omega)]
theorem cnt2_app (l m : List Int) : cnt2 (l ++ m) = cnt2 l + cnt2 m := List.countP_append
theorem good_app {p : Pl} {w : List Sp} {l m : List Int} (h : good p w (l ++ m)) : good p w l := by
  obtain ⟨h1, h2, h3⟩ := h
  refine ⟨fun i hi => (stepOk_app hi).1 (h1 i (by rw [List.length_append]; omega)), ?_, fun i hi => ?_⟩
  · rw [cnt2_app] at h2; omega
  · have := h3 i (by rw [List.length_append]; omega)
    rwa [fwd_app hi] at this
theorem compl_mem {p : Pl} {w : List Sp} : ∀ {k : Nat} {l m : List Int}, m ∈ compl p w k l → (∃ t, t.length = k ∧ m = l ++ t) ∧ (k = 0 ∨ good p w m)
  | 0, l, m, h => by rw [List.mem_singleton.1 h]; exact ⟨⟨[], rfl, (List.append_nil _).symm⟩, .inl rfl⟩
  | k + 1, l, m, h => by
    obtain ⟨q, hq, hm⟩ := List.mem_flatMap.1 h
    obtain ⟨hg, s, _, rfl⟩ := ext_mem.1 hq
    obtain ⟨⟨t, ht, rfl⟩, hk⟩ := compl_mem hm
    refine ⟨⟨s :: t, by simp [ht], by rw [List.append_assoc]; rfl⟩, .inr ?_⟩
    rcases hk with rfl | hk
    · have : t = [] := List.eq_nil_of_length_eq_zero ht
      subst this
      rwa [List.append_nil]
    · exact hk
theorem mem_compl {p : Pl} {w : List Sp} : ∀ {t l : List Int}, good p w (l ++ t) → l ++ t ∈ compl p w t.length l
  | [], l, h => by rw [List.append_nil]; exact List.mem_singleton.2 rfl
  | s :: t, l, h => by
    have e : l ++ s :: t = (l ++ [s]) ++ t := by rw [List.append_assoc]; rfl
    rw [e] at h ⊢
    have hs : s = 0 ∨ s = 1 ∨ s = 2 := by
      have := (good_app h).1 l.length (by simp)
      unfold stepOk at this
      rw [getD_last] at this
      omega
    exact List.mem_flatMap.2 ⟨l ++ [s], ext_mem.2 ⟨good_app h, s, hs, rfl⟩, mem_compl h⟩

/-! ### loads along a case -/
/-- Loads that are possible in a case. -/
def path (p : Pl) (w : List Sp) (l : List Int) (v : Nat → Int) : Prop := (∀ i < l.length, inS (v i) (loadsI p i (l.getD i 0))) ∧ ∀ i, i + 1 < l.length → inS (v (i + 1) - v i) (w.getD i default)
theorem path_fwd {p : Pl} {w : List Sp} {l : List Int} {v : Nat → Int} (h : path p w l v) : ∀ {i : Nat}, i < l.length → inS (v i) (fwd p w l i)
  | 0, hi => h.1 0 hi
  | i + 1, hi => by
    have h1 := path_fwd h (i := i) (by omega)
    have h2 := h.1 (i + 1) hi
    have h3 := h.2 i hi
    rw [fwd]
    generalize fwd p w l i = f at *
    unfold inS meetS addS at *
    simp only
    omega
/-- A load that the entries ahead allow is on a way. -/
theorem path_to {p : Pl} {w : List Sp} {l : List Int} (hw : ∀ i, full (w.getD i default)) (hf : ∀ i, i + 1 < l.length → full (fwd p w l i)) : ∀ {n : Nat} (x : Int), n < l.length → inS x (fwd p w l n) → ∃ v : Nat → Int, v n = x ∧ (∀ i ≤ n, inS (v i) (loadsI p i (l.getD i 0))) ∧ ∀ i < n, inS (v (i + 1) - v i) (w.getD i default)
  | 0, x, h, hx => ⟨fun _ => x, rfl, fun i hi => by have : i = 0 := by omega
                                                    subst this; exact hx, fun i hi => by omega⟩
  | n + 1, x, h, hx => by
    have hx2 : inS x (loadsI p (n + 1) (l.getD (n + 1) 0)) ∧ inS x (addS (fwd p w l n) (w.getD n default)) := by
      rw [fwd] at hx
      generalize addS (fwd p w l n) (w.getD n default) = f at *
      unfold inS meetS at *; simp only at hx; omega
    obtain ⟨y, hy1, hy2⟩ : ∃ y, inS y (fwd p w l n) ∧ inS (x - y) (w.getD n default) := by
      have h2 := hx2.2
      have h3 := hw n
      have h4 : full (fwd p w l n) := hf n h
      generalize fwd p w l n = f at *
      unfold inS addS full at *
      simp only at h2
      refine ⟨max f.lo (x - (w.getD n default).hi), ?_, ?_⟩ <;> omega
    obtain ⟨v, hv, h1, h2⟩ := path_to hw hf y (by omega) hy1
    refine ⟨fun i => if i = n + 1 then x else v i, by simp, fun i hi => ?_, fun i hi => ?_⟩
    · by_cases e : i = n + 1
      · subst e; simp only [if_true]; exact hx2.1
      · simp only [if_neg e]; exact h1 i (by omega)
    · have e1 : i ≠ n + 1 := by omega
      simp only [if_neg e1]
      by_cases e : i + 1 = n + 1
      · have : i = n := by omega
        subst this
        simp only [if_true, hv]; exact hy2
      · simp only [if_neg e]; exact h2 i (by omega)
theorem alive_path {p : Pl} {w : List Sp} {l : List Int} (hw : ∀ i, full (w.getD i default)) (h : alive p w l) : ∃ v, path p w l v := by
  cases hl : l.length with
  | zero => exact ⟨fun _ => 0, fun i hi => by omega, fun i hi => by omega⟩
  | succ n =>
    have hn := h n (by omega)
    obtain ⟨v, _, h1, h2⟩ := path_to hw (fun i hi => h i (by omega)) (fwd p w l n).lo (by omega) ⟨Int.le_refl _, hn⟩
    exact ⟨v, fun i hi => h1 i (by omega), fun i hi => h2 i (by omega)⟩

/-! ### from which loads a log can go on -/
/-- Which states can follow, and the faults that are allowed then. -/
def next1 (p : Pl) (i : Nat) (s : Int) (left : Nat) (t : Int) : List (Int × Nat) := if t = s ∨ shiftI p i then (if t ≠ 2 then [(t, left)] else if 0 < left then [(t, left - 1)] else []) else []
def nexts (p : Pl) (i : Nat) (s : Int) (left : Nat) : List (Int × Nat) := [0, 1, 2].flatMap (next1 p i s left)
def thru (here : Sp) (y : Sp) (l : List Sp) : List Sp := l.flatMap fun x => if full (meetS here (lessS x y)) then [meetS here (lessS x y)] else []
/-- The loads at an entry, k entries ahead of the last one, from which the log can go on. -/
def chF (p : Pl) (w : List Sp) : Nat → Nat → Int → Nat → List Sp
  | 0, i, s, _ => [loadsI p i s]
  | k + 1, i, s, left => unitedV ((nexts p i s left).flatMap fun t => thru (loadsI p i s) (w.getD i default) (chF p w k (i + 1) t.1 t.2))
theorem nexts_mem {p : Pl} {i : Nat} {s t : Int} {left r : Nat} (ht : t = 0 ∨ t = 1 ∨ t = 2) (hs : t = s ∨ shiftI p i) (hr : if t = 2 then r + 1 = left else r = left) : (t, r) ∈ nexts p i s left := by
  unfold nexts
  refine List.mem_flatMap.2 ⟨t, by simpa using ht, ?_⟩
  unfold next1
  rw [if_pos hs]
  by_cases h2 : t = 2
  · rw [if_pos h2] at hr
    rw [if_neg (fun h => h h2), if_pos (by omega)]
    exact List.mem_singleton.2 (by rw [show left - 1 = r by omega])
  · rw [if_neg h2] at hr
    rw [if_pos h2]
    exact List.mem_singleton.2 (by rw [hr])
theorem cnt2_drop {l : List Int} {i : Nat} (h : i < l.length) : cnt2 (l.drop i) = cnt2 (l.drop (i + 1)) + if l.getD i 0 = 2 then 1 else 0 := by
  rw [List.drop_eq_getElem_cons h]
  unfold cnt2
  rw [List.countP_cons, List.getD_eq_getElem?_getD, List.getElem?_eq_getElem h]
  simp
/-- A way along a case is among these loads. -/
theorem path_chF {p : Pl} {w : List Sp} {l : List Int} {v : Nat → Int} (h : path p w l v) (hs : ∀ i < l.length, stepOk p l i) : ∀ (k i left r : Nat), i + k + 1 = l.length → cnt2 (l.drop (i + 1)) + r = left → cov (v i) (chF p w k i (l.getD i 0) left)
  | 0, i, left, r, hi, _ => ⟨loadsI p i (l.getD i 0), List.mem_singleton.2 rfl, h.1 i (by omega)⟩
  | k + 1, i, left, r, hi, hr => by
    have hi1 : i + 1 < l.length := by omega
    have hst := hs (i + 1) hi1
    have hc := cnt2_drop hi1
    obtain ⟨x, hx, hvx⟩ := path_chF h hs k (i + 1) (cnt2 (l.drop (i + 1 + 1)) + r) r (by omega) rfl
    have h1 := h.1 i (by omega)
    have h2 := h.2 i hi1
    have hin : inS (v i) (meetS (loadsI p i (l.getD i 0)) (lessS x (w.getD i default))) := by
      generalize loadsI p i (l.getD i 0) = here at *
      unfold inS meetS lessS at *
      simp only
      omega
    refine united_cov ⟨_, List.mem_flatMap.2 ⟨(l.getD (i + 1) 0, cnt2 (l.drop (i + 1 + 1)) + r), nexts_mem (by unfold stepOk at hst; omega) ?_ ?_, List.mem_flatMap.2 ⟨x, hx, ?_⟩⟩, hin⟩
    · by_cases e : l.getD (i + 1) 0 = l.getD i 0
      · exact .inl e
      · exact .inr (hst.2.2 (by omega) e)
    · split at hc
      · rename_i e
        rw [if_pos e]; omega
      · rename_i e
        rw [if_neg e]; omega
    · rw [if_pos (by unfold inS at hin; unfold full; omega)]
      exact List.mem_singleton.2 rfl
/-- Where no load that is left can go on, no case is behind. -/
theorem compl_none {p : Pl} {w : List Sp} {pre : List Int} {k left : Nat} (hw : ∀ i, full (w.getD i default)) (h0 : pre ≠ []) (hl : (cnt2 pre : Int) + left = p.faults)
    (ha : ∀ y ∈ chF p w k (pre.length - 1) (pre.getD (pre.length - 1) 0) left, ¬ full (meetS (fwd p w pre (pre.length - 1)) y)) (hg : good p w pre) : compl p w k pre = [] := by
  rw [List.eq_nil_iff_forall_not_mem]
  intro m hm
  obtain ⟨⟨t, ht, rfl⟩, hk⟩ := compl_mem hm
  have hgm : good p w (pre ++ t) := by
    rcases hk with rfl | hk
    · rw [List.eq_nil_of_length_eq_zero ht, List.append_nil]; exact hg
    · exact hk
  obtain ⟨v, hv⟩ := alive_path hw hgm.2.2
  have hp := List.length_pos_iff.2 h0
  have hd : (pre ++ t).drop (pre.length - 1 + 1) = t := by rw [Nat.sub_add_cancel hp]; exact List.drop_left
  have hct := hgm.2.1
  rw [cnt2_app] at hct
  obtain ⟨y, hy, hvy⟩ := path_chF hv hgm.1 k (pre.length - 1) left (left - cnt2 t) (by rw [List.length_append]; omega) (by rw [hd]; omega)
  rw [getD_app (by omega)] at hy
  refine ha y hy ?_
  have h1 := path_fwd hv (i := pre.length - 1) (by rw [List.length_append]; omega)
  rw [fwd_app (by omega)] at h1
  generalize fwd p w pre (pre.length - 1) = f at *
  unfold inS at *
  unfold full meetS
  simp only
  omega
end Go.Proofs.YtaahjlhfmkjefaaGreatDoor
/- Pillows: how cases are found one behind the other, up to a limit; how many spans there can be. No program in sight. -/
namespace Go.Proofs.YtaahjlhfmkjefaaGreatDoor
set_option linter.unusedSimpArgs false
set_option linter.unusedVariables false
/-- What becomes of a beginning by one entry more of this state, and k others. -/
def sub (p : Pl) (w : List Sp) (k : Nat) (l : List Int) (s : Int) : List (List Int) := if good p w (l ++ [s]) then compl p w k (l ++ [s]) else []
theorem compl_succ (p : Pl) (w : List Sp) (k : Nat) (l : List Int) : compl p w (k + 1) l = [0, 1, 2].flatMap (sub p w k l) := by
  show (ext p w l).flatMap (compl p w k) = _
  unfold ext
  have : ∀ L : List Int, (((L.map fun s => l ++ [s]).filter fun m => decide (good p w m)).flatMap (compl p w k)) = L.flatMap (sub p w k l) := by
    intro L
    induction L with
    | nil => rfl
    | cons s L ih =>
      rw [List.map_cons, List.filter_cons, List.flatMap_cons, ← ih]
      unfold sub
      split
      · rename_i h
        rw [if_pos (of_decide_eq_true h), List.flatMap_cons]
      · rename_i h
        rw [if_neg (fun hg => h (decide_eq_true hg)), List.nil_append]
  exact this _
/-- Lists are put behind one another, as long as there are at most so many. -/
def lim (m : Nat) (out l : List (List Int)) : List (List Int) := (out ++ l).take m
theorem lim_lim (m : Nat) (out a b : List (List Int)) : lim m (lim m out a) b = lim m out (a ++ b) := by
  unfold lim
  rw [← List.append_assoc]
  generalize out ++ a = x
  rw [List.take_append, List.take_append, List.take_take, List.length_take]
  by_cases h : x.length ≤ m
  · rw [Nat.min_eq_right h, Nat.min_self]
  · have e1 : m - min m x.length = 0 := by omega
    have e2 : m - x.length = 0 := by omega
    rw [e1, e2, Nat.min_self]
theorem lim_full {m : Nat} {out l : List (List Int)} (h : out.length = m) : lim m out l = out := by
  unfold lim
  rw [List.take_append, ← h, Nat.sub_self, List.take_zero, List.append_nil, List.take_length]
theorem lim_nil {m : Nat} {out : List (List Int)} (h : out.length ≤ m) : lim m out [] = out := by
  unfold lim
  rw [List.append_nil, List.take_of_length_le h]
theorem lim_one {m : Nat} {out : List (List Int)} {l : List Int} (h : out.length < m) : lim m out [l] = out ++ [l] := by
  unfold lim
  rw [List.take_of_length_le (by simp; omega)]
theorem lim_len (m : Nat) (out l : List (List Int)) : (lim m out l).length ≤ m := by unfold lim; rw [List.length_take]; omega
/-- A state that cannot follow. -/
theorem sub_none {p : Pl} {w : List Sp} {k : Nat} {l : List Int} {i : Nat} {s t : Int} {left : Nat} (hl : l.length = i + 1) (hs : l.getD i 0 = s) (hc : (cnt2 l : Int) + left = p.faults) (h : next1 p i s left t = []) : sub p w k l t = [] := by
  unfold sub
  rw [if_neg]
  intro hg
  have h1 := hg.1 (i + 1) (by rw [List.length_append, hl]; simp)
  unfold stepOk at h1
  have e1 : (l ++ [t]).getD (i + 1) 0 = t := by rw [← hl]; exact getD_last
  have e2 : (l ++ [t]).getD (i + 1 - 1) 0 = s := by rw [Nat.add_sub_cancel, getD_app (by omega), hs]
  rw [e1, e2, Nat.add_sub_cancel] at h1
  have h2 : t = s ∨ shiftI p i := by
    by_cases e : t = s
    · exact .inl e
    · exact .inr (h1.2.2 (by omega) e)
  unfold next1 at h
  rw [if_pos h2] at h
  split at h
  · cases h
  · rename_i h3
    have h3 : t = 2 := Classical.not_not.1 h3
    split at h
    · cases h
    · have h4 := hg.2.1
      rw [cnt2_app, h3] at h4
      have : cnt2 [2] = 1 := rfl
      rw [this] at h4
      omega
/-- The faults that are left behind a state that can follow. -/
theorem next1_some {p : Pl} {i : Nat} {s t : Int} {left : Nat} {x : Int × Nat} (h : x ∈ next1 p i s left t) : x.1 = t ∧ (t = s ∨ shiftI p i) ∧ next1 p i s left t = [x] ∧ (if t = 2 then x.2 + 1 = left else x.2 = left) := by
  unfold next1 at h ⊢
  split at h
  · rename_i h1
    rw [if_pos h1]
    split at h
    · rename_i h2
      rw [if_pos h2, List.mem_singleton.1 h]
      exact ⟨rfl, h1, rfl, by rw [if_neg h2]⟩
    · rename_i h2
      rw [if_neg h2]
      split at h
      · rename_i h3
        rw [if_pos h3, List.mem_singleton.1 h]
        exact ⟨rfl, h1, rfl, by rw [if_pos (Classical.not_not.1 h2)]; show left - 1 + 1 = left; omega⟩
      · cases h
  · cases h

/-! ### how many -/
/-- Spans of loads. -/
def inW (l : List Sp) : Prop := ∀ x ∈ l, 0 ≤ x.lo ∧ x.lo ≤ x.hi ∧ x.hi ≤ 65536
theorem joinGo_len : ∀ (l : List Sp) (c : Sp), inW (c :: l) → ((joinGo c l).length : Int) * 2 ≤ 65538 - c.hi
  | [], c, h => by
    have := h c (List.mem_cons_self ..)
    show ((1 : Nat) : Int) * 2 ≤ _
    omega
  | x :: r, c, h => by
    have hc := h c (List.mem_cons_self ..)
    have hx := h x (List.mem_cons_of_mem _ (List.mem_cons_self ..))
    unfold joinGo
    split
    · have := joinGo_len r ⟨c.lo, max c.hi x.hi⟩ (fun y hy => by
        rcases List.mem_cons.1 hy with rfl | hy
        · refine ⟨hc.1, ?_, ?_⟩
          · show c.lo ≤ max c.hi x.hi; omega
          · show max c.hi x.hi ≤ _; omega
        · exact h y (List.mem_cons_of_mem _ (List.mem_cons_of_mem _ hy)))
      simp only at this
      omega
    · have := joinGo_len r x fun y hy => h y (List.mem_cons_of_mem _ hy)
      rw [List.length_cons]
      omega
theorem joinGo_in : ∀ (l : List Sp) (c : Sp), inW (c :: l) → inW (joinGo c l)
  | [], c, h => h
  | x :: r, c, h => by
    have hc := h c (List.mem_cons_self ..)
    have hx := h x (List.mem_cons_of_mem _ (List.mem_cons_self ..))
    unfold joinGo
    split
    · refine joinGo_in r ⟨c.lo, max c.hi x.hi⟩ (fun y hy => ?_)
      rcases List.mem_cons.1 hy with rfl | hy
      · refine ⟨hc.1, ?_, ?_⟩
        · show c.lo ≤ max c.hi x.hi; omega
        · show max c.hi x.hi ≤ _; omega
      · exact h y (List.mem_cons_of_mem _ (List.mem_cons_of_mem _ hy))
    · intro y hy
      rcases List.mem_cons.1 hy with rfl | hy
      · exact hc
      · exact joinGo_in r x (fun z hz => h z (List.mem_cons_of_mem _ hz)) y hy
theorem united_in {l : List Sp} (h : inW l) : inW (unitedV l) ∧ (unitedV l).length ≤ 32769 := by
  have hp := sortS_perm l
  have hs : inW (sortS l) := fun x hx => h x (hp.mem_iff.1 hx)
  unfold unitedV
  cases hl : sortS l with
  | nil => exact ⟨fun x hx => (by cases hx), (by decide : 0 ≤ 32769)⟩
  | cons a m =>
    rw [hl] at hs
    have h1 := joinGo_len m a hs
    have h2 := hs a (List.mem_cons_self ..)
    exact ⟨joinGo_in m a hs, by show (joinGo a m).length ≤ _; omega⟩
theorem inW.near {l : List Sp} (h : inW l) : near l := fun x hx => by have := h x hx; omega
theorem thru_in {here y : Sp} {l : List Sp} (hh : 0 ≤ here.lo ∧ here.hi ≤ 65536) : inW (thru here y l) := fun x hx => by
  obtain ⟨z, _, h⟩ := List.mem_flatMap.1 hx
  split at h
  · rename_i hf
    rw [List.mem_singleton.1 h]
    unfold full at hf
    unfold meetS at hf ⊢
    simp only at hf ⊢
    omega
  · cases h
theorem thru_len {here y : Sp} {l : List Sp} : (thru here y l).length ≤ l.length := by
  unfold thru
  induction l with
  | nil => exact Nat.le_refl _
  | cons a l ih =>
    rw [List.flatMap_cons, List.length_append, List.length_cons]
    split <;> simp only [List.length_cons, List.length_nil] <;> omega
theorem loads_in (p : Pl) (i : Nat) (s : Int) (h : 0 ≤ (p.log.getD i default).wt ∧ (p.log.getD i default).wt ≤ 65536) (hn : 0 ≤ p.noise) (hs : 0 ≤ p.slab) : 0 ≤ (loadsI p i s).lo ∧ (loadsI p i s).lo ≤ (loadsI p i s).hi ∧ (loadsI p i s).hi ≤ 65536 := by
  unfold loadsI
  split
  · simp only; omega
  · split
    · simp only; omega
    · simp only; omega
theorem next1_len (p : Pl) (i : Nat) (s : Int) (left : Nat) (t : Int) : (next1 p i s left t).length ≤ 1 := by
  unfold next1
  split
  · split
    · exact Nat.le_refl _
    · split
      · exact Nat.le_refl _
      · exact Nat.zero_le _
  · exact Nat.zero_le _
theorem chF_in {p : Pl} {w : List Sp} (hp : pOk p) : ∀ (k i : Nat) (s : Int) (left : Nat), i + k < p.log.length → inW (chF p w k i s left) ∧ (chF p w k i s left).length ≤ 32769
  | 0, i, s, left, hi => by
    have := loads_in p i s (hp.2 i (by omega)).2.1 hp.1.2.2.1.1 hp.1.2.2.2.1.1
    exact ⟨fun x hx => by rw [List.mem_singleton.1 hx]; exact this, by show 1 ≤ _; decide⟩
  | k + 1, i, s, left, hi => by
    have := loads_in p i s (hp.2 i (by omega)).2.1 hp.1.2.2.1.1 hp.1.2.2.2.1.1
    exact united_in fun x hx => by
      obtain ⟨t, _, h⟩ := List.mem_flatMap.1 hx
      exact thru_in ⟨this.1, this.2.2⟩ x h
end Go.Proofs.YtaahjlhfmkjefaaGreatDoor
/- Pillows: a case remains exactly if no two entries contradict each other; what the ends of loads are. No program in sight. -/
namespace Go.Proofs.YtaahjlhfmkjefaaGreatDoor
set_option linter.unusedSimpArgs false
set_option linter.unusedVariables false
/-! ### the ends of loads -/
/-- The least and the greatest load at an entry, of a case with so many entries. -/
def endI (p : Pl) (w : List Sp) (l : List Int) (i : Nat) : Sp := bwd p w l (l.length - 1 - i) i
theorem endI_last {p : Pl} {w : List Sp} {l : List Int} {i : Nat} (h : i + 1 = l.length) : endI p w l i = fwd p w l i := by
  unfold endI
  rw [show l.length - 1 - i = 0 by omega]
  rfl
theorem endI_step {p : Pl} {w : List Sp} {l : List Int} {i : Nat} (h : i + 1 < l.length) : endI p w l i = meetS (fwd p w l i) (lessS (endI p w l (i + 1)) (w.getD i default)) := by
  unfold endI
  rw [show l.length - 1 - i = (l.length - 1 - (i + 1)) + 1 by omega]
  rfl
theorem endsV_len (p : Pl) (w : List Sp) (l : List Int) : (endsV p w l).length = l.length := by simp [endsV]
theorem endsV_get {p : Pl} {w : List Sp} {l : List Int} {i : Nat} (h : i < l.length) : (endsV p w l).getD i default = endI p w l i := by
  unfold endsV endI
  rw [List.getD_eq_getElem?_getD, List.getElem?_map, List.getElem?_range h]
  rfl
theorem end_fwd {p : Pl} {w : List Sp} {l : List Int} {i : Nat} (h : i < l.length) {v : Int} (hv : inS v (endI p w l i)) : inS v (fwd p w l i) := by
  by_cases hi : i + 1 < l.length
  · rw [endI_step hi] at hv
    generalize fwd p w l i = f at *
    unfold inS meetS at *
    simp only at hv
    omega
  · rwa [endI_last (by omega)] at hv
theorem end_back {p : Pl} {w : List Sp} {l : List Int} (hw : ∀ i, full (w.getD i default)) (ha : alive p w l) {i : Nat} (h : i + 1 < l.length) {v : Int} (hv : inS v (endI p w l (i + 1))) :
    full (meetS (endI p w l i) (lessS ⟨v, v⟩ (w.getD i default))) := by
  have h2 := end_fwd h hv
  rw [fwd] at h2
  have h1 := hw i
  have h3 := ha i (by omega)
  rw [endI_step h]
  generalize endI p w l (i + 1) = e at *
  generalize fwd p w l i = f at *
  generalize loadsI p (i + 1) (l.getD (i + 1) 0) = g at *
  unfold inS meetS addS at *
  unfold full at *
  unfold lessS
  simp only at h2 hv ⊢
  omega
theorem end_full {p : Pl} {w : List Sp} {l : List Int} (hw : ∀ i, full (w.getD i default)) (ha : alive p w l) : ∀ k i, i + k + 1 = l.length → full (endI p w l i)
  | 0, i, h => by rw [endI_last (by omega)]; exact ha i (by omega)
  | k + 1, i, h => by
    have h1 := end_full hw ha k (i + 1) (by omega)
    have h2 := end_back hw ha (i := i) (by omega) (v := (endI p w l (i + 1)).lo) ⟨Int.le_refl _, h1⟩
    generalize endI p w l i = e at *
    unfold full meetS at *
    simp only at h2
    omega
end Go.Proofs.YtaahjlhfmkjefaaGreatDoor
/- Pillows: wider bounds, further entries, beginnings of logs; cases in order. No program in sight. -/
namespace Go.Proofs.YtaahjlhfmkjefaaGreatDoor
set_option linter.unusedSimpArgs false
set_option linter.unusedVariables false
/-- One span within another one. -/
def subS (x y : Sp) : Prop := y.lo ≤ x.lo ∧ x.hi ≤ y.hi
theorem subS.refl (x : Sp) : subS x x := ⟨Int.le_refl _, Int.le_refl _⟩
theorem subS.full {x y : Sp} (h : subS x y) (hf : full x) : full y := by unfold subS at h; unfold Go.Proofs.YtaahjlhfmkjefaaGreatDoor.full at *; omega
theorem subS.add {a b x y : Sp} (h : subS a x) (g : subS b y) : subS (addS a b) (addS x y) := by
  unfold subS addS at *; simp only; omega
/-! ### beginnings of a log -/
theorem flatMap_congr' {α β : Type} {f g : α → List β} : ∀ {l : List α}, (∀ x ∈ l, f x = g x) → l.flatMap f = l.flatMap g
  | [], _ => rfl
  | a :: l, h => by rw [List.flatMap_cons, List.flatMap_cons, h a (List.mem_cons_self ..), flatMap_congr' fun x hx => h x (List.mem_cons_of_mem _ hx)]
theorem caseOk_good {p : Pl} {w : List Sp} {l : List Int} : caseOk p l ∧ alive p w l ↔ l.length = p.log.length ∧ good p w l := by
  unfold caseOk good
  constructor
  · rintro ⟨⟨h1, h2, h3⟩, h4⟩; exact ⟨h1, h2, h3, h4⟩
  · rintro ⟨h1, h2, h3, h4⟩; exact ⟨⟨h1, h2, h3⟩, h4⟩
/-- The cases that remain: the valid ones that do. -/
theorem remV_mem {p : Pl} {w : List Sp} (h0 : 0 ≤ p.faults) {l : List Int} : l ∈ remV p w ↔ caseOk p l ∧ alive p w l := by
  rw [caseOk_good]
  constructor
  · intro h
    obtain ⟨h1, h2⟩ := lvl_mem h
    refine ⟨h1, ?_⟩
    rcases h2 with h2 | h2
    · have : l = [] := List.eq_nil_of_length_eq_zero (by omega)
      subst this
      exact ⟨fun i hi => (by cases hi), (by show ((0 : Nat) : Int) ≤ p.faults; omega), fun i hi => (by cases hi)⟩
    · exact h2
  · rintro ⟨h1, h2⟩
    rw [remV_compl, ← h1]
    exact mem_compl (l := []) h2

/-! ### how the numbers of beginnings grow -/
theorem flatMap_len {α β : Type} {f : α → List β} {n : Nat} : ∀ {l : List α}, (∀ x ∈ l, (f x).length ≤ n) → (l.flatMap f).length ≤ n * l.length
  | [], _ => Nat.zero_le _
  | a :: l, h => by
    have h1 := h a (List.mem_cons_self ..)
    have h2 := flatMap_len (f := f) (n := n) (l := l) fun x hx => h x (List.mem_cons_of_mem _ hx)
    rw [List.flatMap_cons, List.length_append, List.length_cons, Nat.mul_succ]
    omega
/-! ### in order -/
end Go.Proofs.YtaahjlhfmkjefaaGreatDoor
/- Pillows: the chapter's example. No program in sight. -/
namespace Go.Proofs.YtaahjlhfmkjefaaGreatDoor
def exP : Pl := ⟨0, 0, 5, 30, 20, 1, [⟨10, 100⟩, ⟨11, 180⟩, ⟨12, 110⟩]⟩
def exQ : Pl := ⟨0, 0, 5, 30, 20, 0, [⟨10, 100⟩, ⟨11, 180⟩, ⟨12, 110⟩]⟩
def exW : List Sp := [⟨0, 30⟩, ⟨-10, 30⟩]
theorem exQ_ok : pOk exQ := by decide
theorem ex_told : toldV exP exW [0, 2, 0] = 0 ∧ toldV exP exW [0, 0, 0] = 0 := by decide
theorem ex_ends : alive exP exW [0, 2, 0] ∧ endsV exP exW [0, 2, 0] = [⟨95, 105⟩, ⟨95, 125⟩, ⟨105, 115⟩] ∧ ¬ alive exP exW [0, 0, 0] ∧ contra exP exW [0, 0, 0] 0 1 := by decide
theorem ex_rem : remV exP exW = [[0, 2, 0], [0, 2, 1], [1, 2, 0], [1, 2, 1]] := by decide
theorem ex_remQ : remV exQ exW = [] := by decide
end Go.Proofs.YtaahjlhfmkjefaaGreatDoor
