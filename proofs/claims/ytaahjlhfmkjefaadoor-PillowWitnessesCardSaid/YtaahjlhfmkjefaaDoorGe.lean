/- The walk's logic: trees of orders. -/
import Derived.Test.YtaahjlhfmkjefaaDoorGd
set_option linter.unusedVariables false
set_option linter.unusedSimpArgs false
set_option linter.unusedSectionVars false
/- Regions whose order is open: a tree of orders, told apart only where two operations do not commute. -/
namespace Go
namespace Gv
variable {P : Program}
/-- Orders of a region: one that may go first whatever comes; one that goes first in this branch; branches. -/
inductive Ord
  | nil
  | one (x : Nat) (t : Ord)
  | fst (x : Nat) (t : Ord)
  | fork (t u : Ord)
def Ord.heads : Ord → List Nat
  | .fst x _ => [x]
  | .fork t u => t.heads ++ u.heads
  | _ => []
def Ord.cut (z : Nat) : Ord → Ord
  | .nil => .nil
  | .one x t => match decide (x = z) with | true => t | false => .one x (t.cut z)
  | .fst _ t => t
  | .fork t u => match t.heads.any (Nat.beq z) with | true => t.cut z | false => u.cut z
def ordP (P : Program) (ops : Array Oper) (K : List Value → View → Hp → Prop) : Ord → List Value → View → Hp → Prop
  | .nil => K
  | .one x t => SOps P ops (ordP P ops K t) [x]
  | .fst x t => SOps P ops (ordP P ops K t) [x]
  | .fork t u => fun s h O => ordP P ops K t s h O ∧ ordP P ops K u s h O
/-- Every one of L is a head, or waits for another of L. -/
def Cover (ops : Array Oper) (H L : List Nat) : Prop := ∀ y ∈ L, y ∈ H ∨ ∃ z ∈ L, z ≠ y ∧ Blk ops z y
def OrdOk (P : Program) (ops : Array Oper) : Ord → List Nat → Bool → Prop
  | .nil, L, b => L = [] ∧ b = false
  | .one x t, L, b => b = false ∧ x ∈ L ∧ (∀ y ∈ L, y = x ∨ comm2 P ops x y = true ∨ Blk ops x y) ∧ OrdOk P ops t (L.erase x) false
  | .fst x t, L, b => x ∈ L ∧ (b = true ∨ Cover ops [x] L) ∧ OrdOk P ops t (L.erase x) false
  | .fork t u, L, b => (b = true ∨ Cover ops (t.heads ++ u.heads) L) ∧ OrdOk P ops t L true ∧ OrdOk P ops u L true
def Free (ops : Array Oper) (z : Nat) (L : List Nat) : Prop := ∀ w ∈ L, w ≠ z → ¬ Blk ops w z
theorem Free.erase {ops : Array Oper} {z x : Nat} {L : List Nat} (h : Free ops z L) : Free ops z (L.erase x) := fun w hw => h w (List.mem_of_mem_erase hw)
theorem Cover.free {ops : Array Oper} {H L : List Nat} {z : Nat} (h : Cover ops H L) (hz : z ∈ L) (hf : Free ops z L) : z ∈ H := by
  rcases h z hz with h1 | ⟨w, hw, hn, hb⟩
  · exact h1
  · exact absurd hb (hf w hw hn)
theorem ordP.front {ops : Array Oper} {K : List Value → View → Hp → Prop} (hsel : Region.noSelect ops = true) {z : Nat} : ∀ (t : Ord) (L : List Nat) (b : Bool) (s : List Value) (h : View) (O : Hp), (∃ w, Val h O w) → OrdOk P ops t L b → z ∈ L → Free ops z L → (b = true → z ∈ t.heads) →
    ordP P ops K t s h O → SOps P ops (ordP P ops K (t.cut z)) [z] s h O
  | .nil, L, b, s, h, O, _, hg, hz, _, _, _ => by rw [hg.1] at hz; cases hz
  | .one x t, L, b, s, h, O, ⟨w, hv⟩, ⟨_, hx, hc, hg⟩, hz, hf, _, hk => by
    unfold Ord.cut
    by_cases e : x = z
    · rw [decide_eq_true e]
      subst e
      exact hk
    · rw [decide_eq_false e]
      have hk2 : SOps P ops (ordP P ops K (t.cut z)) ([x] ++ z :: []) s h O := by
        obtain ⟨ox, hox, hk⟩ := hk
        refine ⟨ox, hox, hk.monoV hv fun s2 h2 O2 hv2 k2 => ?_⟩
        exact ordP.front hsel t (L.erase x) false s2 h2 O2 hv2 hg ((List.mem_erase_of_ne (Ne.symm e)).2 hz) hf.erase (fun e => by cases e) k2
      have hcz : ∀ a ∈ [x], comm2 P ops a z = true := fun a ha => by
        obtain rfl := List.mem_singleton.1 ha
        rcases hc z hz with h1 | h1 | h1
        · exact absurd h1.symm e
        · exact h1
        · exact absurd h1 (hf a hx e)
      obtain ⟨oz, hoz, hk3⟩ := SOps.front hsel [x] [] s h O ⟨w, hv⟩ hcz hk2
      exact ⟨oz, hoz, hk3⟩
  | .fst x t, L, b, s, h, O, _, ⟨hx, hb, hg⟩, hz, hf, hbz, hk => by
    have e : z = x := by
      rcases hb with hb | hb
      · exact List.mem_singleton.1 (hbz hb)
      · exact List.mem_singleton.1 (hb.free hz hf)
    subst e
    exact hk
  | .fork t u, L, b, s, h, O, hv, ⟨hb, hg1, hg2⟩, hz, hf, hbz, hk => by
    have hm : z ∈ t.heads ++ u.heads := by
      rcases hb with hb | hb
      · exact hbz hb
      · exact hb.free hz hf
    unfold Ord.cut
    cases e : t.heads.any (Nat.beq z) with
    | true =>
      have h1 : z ∈ t.heads := by
        obtain ⟨y, hy, he⟩ := List.any_eq_true.1 e
        rw [Nat.eq_of_beq_eq_true he]; exact hy
      exact ordP.front hsel t L true s h O hv hg1 hz hf (fun _ => h1) hk.1
    | false =>
      have h1 : z ∈ u.heads := by
        rcases List.mem_append.1 hm with h1 | h1
        · have : t.heads.any (Nat.beq z) = true := List.any_eq_true.2 ⟨z, h1, by simp⟩
          rw [this] at e; cases e
        · exact h1
      exact ordP.front hsel u L true s h O hv hg2 hz hf (fun _ => h1) hk.2
theorem OrdOk.cut {ops : Array Oper} {z : Nat} : ∀ (t : Ord) (L : List Nat) (b : Bool), OrdOk P ops t L b → z ∈ L → Free ops z L → (b = true → z ∈ t.heads) → OrdOk P ops (t.cut z) (L.erase z) false
  | .nil, L, b, hg, hz, _, _ => by rw [hg.1] at hz; cases hz
  | .one x t, L, b, ⟨_, hx, hc, hg⟩, hz, hf, _ => by
    unfold Ord.cut
    by_cases e : x = z
    · rw [decide_eq_true e]
      subst e
      exact hg
    · rw [decide_eq_false e]
      refine ⟨rfl, (List.mem_erase_of_ne e).2 hx, fun y hy => hc y (List.mem_of_mem_erase hy), ?_⟩
      rw [List.erase_comm]
      exact OrdOk.cut t (L.erase x) false hg ((List.mem_erase_of_ne (Ne.symm e)).2 hz) hf.erase fun e => by cases e
  | .fst x t, L, b, ⟨hx, hb, hg⟩, hz, hf, hbz => by
    have e : z = x := by
      rcases hb with hb | hb
      · exact List.mem_singleton.1 (hbz hb)
      · exact List.mem_singleton.1 (hb.free hz hf)
    subst e
    exact hg
  | .fork t u, L, b, ⟨hb, hg1, hg2⟩, hz, hf, hbz => by
    have hm : z ∈ t.heads ++ u.heads := by
      rcases hb with hb | hb
      · exact hbz hb
      · exact hb.free hz hf
    unfold Ord.cut
    cases e : t.heads.any (Nat.beq z) with
    | true =>
      have h1 : z ∈ t.heads := by
        obtain ⟨y, hy, he⟩ := List.any_eq_true.1 e
        rw [Nat.eq_of_beq_eq_true he]; exact hy
      exact OrdOk.cut t L true hg1 hz hf fun _ => h1
    | false =>
      have h1 : z ∈ u.heads := by
        rcases List.mem_append.1 hm with h1 | h1
        · have : t.heads.any (Nat.beq z) = true := List.any_eq_true.2 ⟨z, h1, by simp⟩
          rw [this] at e; cases e
        · exact h1
      exact OrdOk.cut u L true hg2 hz hf fun _ => h1
theorem OrdOk.done {ops : Array Oper} {K : List Value → View → Hp → Prop} : ∀ (t : Ord) (b : Bool) (s : List Value) (h : View) (O : Hp), OrdOk P ops t [] b → ordP P ops K t s h O → K s h O
  | .nil, _, _, _, _, _, hk => hk
  | .one x t, b, s, h, O, ⟨_, hx, _⟩, _ => by cases hx
  | .fst x t, b, s, h, O, ⟨hx, _⟩, _ => by cases hx
  | .fork t u, b, s, h, O, ⟨_, hg, _⟩, hk => OrdOk.done t true s h O hg hk.1
/-! ### the check -/
def ordG (P : Program) (ops : Array Oper) (K : List Value → View → Hp → Prop) : Ord → List Value → View → Hp → Prop
  | .nil => fun s h O => NextSt (K s h O)
  | .one x t => fun s h O => opsG P ops.toList [x] s h O (ordG P ops K t)
  | .fst x t => fun s h O => opsG P ops.toList [x] s h O (ordG P ops K t)
  | .fork t u => fun s h O => ordG P ops K t s h O ∧ ordG P ops K u s h O
theorem ordP.of_G {ops : Array Oper} {K : List Value → View → Hp → Prop} : ∀ (t : Ord) (s : List Value) (h : View) (O : Hp), ordG P ops K t s h O → ordP P ops K t s h O
  | .nil, _, _, _, k => NextSt.out k
  | .one x t, s, h, O, k => SOps.mono (fun s h O k => ordP.of_G t s h O k) [x] s h O (SOps.of_opsG _ s h O k)
  | .fst x t, s, h, O, k => SOps.mono (fun s h O k => ordP.of_G t s h O k) [x] s h O (SOps.of_opsG _ s h O k)
  | .fork t u, s, h, O, k => ⟨ordP.of_G t s h O k.1, ordP.of_G u s h O k.2⟩
end Gv
end Go
