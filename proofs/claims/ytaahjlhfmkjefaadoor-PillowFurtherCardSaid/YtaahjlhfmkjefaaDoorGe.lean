/- The walk's logic: trees of orders. -/
import Derived.Test.YtaahjlhfmkjefaaDoorGd
set_option linter.unusedVariables false
set_option linter.unusedSimpArgs false
set_option linter.unusedSectionVars false
/- Regions whose order is open: a tree of orders, told apart only where two operations do not commute. -/
namespace Go
namespace Gv
variable {P : Program}
/-- Orders of a region: one that may go first whatever comes; one that goes first in this branch; branches. -/
inductive Ord
  | nil
  | one (x : Nat) (t : Ord)
  | fst (x : Nat) (t : Ord)
  | fork (t u : Ord)
def Ord.heads : Ord → List Nat
  | .fst x _ => [x]
  | .fork t u => t.heads ++ u.heads
  | _ => []
def Ord.cut (z : Nat) : Ord → Ord
  | .nil => .nil
  | .one x t => match decide (x = z) with | true => t | false => .one x (t.cut z)
  | .fst _ t => t
  | .fork t u => match t.heads.any (Nat.beq z) with | true => t.cut z | false => u.cut z
def ordP (P : Program) (ops : Array Oper) (K : List Value → View → Hp → Prop) : Ord → List Value → View → Hp → Prop
  | .nil => K
  | .one x t => SOps P ops (ordP P ops K t) [x]
  | .fst x t => SOps P ops (ordP P ops K t) [x]
  | .fork t u => fun s h O => ordP P ops K t s h O ∧ ordP P ops K u s h O
/-- Every one of L is a head, or waits for another of L. -/
def Cover (ops : Array Oper) (H L : List Nat) : Prop := ∀ y ∈ L, y ∈ H ∨ ∃ z ∈ L, z ≠ y ∧ Blk ops z y
def OrdOk (P : Program) (ops : Array Oper) : Ord → List Nat → Bool → Prop
  | .nil, L, b => L = [] ∧ b = false
  | .one x t, L, b => b = false ∧ x ∈ L ∧ (∀ y ∈ L, y = x ∨ comm2 P ops x y = true ∨ Blk ops x y) ∧ OrdOk P ops t (L.erase x) false
  | .fst x t, L, b => x ∈ L ∧ (b = true ∨ Cover ops [x] L) ∧ OrdOk P ops t (L.erase x) false
  | .fork t u, L, b => (b = true ∨ Cover ops (t.heads ++ u.heads) L) ∧ OrdOk P ops t L true ∧ OrdOk P ops u L true
def Free (ops : Array Oper) (z : Nat) (L : List Nat) : Prop := ∀ w ∈ L, w ≠ z → ¬ Blk ops w z
theorem Free.erase {ops : Array Oper} {z x : Nat} {L : List Nat} (h : Free ops z L) : Free ops z (L.erase x) := fun w hw => h w (List.mem_of_mem_erase hw)
theorem Cover.free {ops : Array Oper} {H L : List Nat} {z : Nat} (h : Cover ops H L) (hz : z ∈ L) (hf : Free ops z L) : z ∈ H := by
  rcases h z hz with h1 | ⟨w, hw, hn, hb⟩
  · exact h1
  · exact absurd hb (hf w hw hn)
theorem ordP.front {ops : Array Oper} {K : List Value → View → Hp → Prop} (hsel : Region.noSelect ops = true) {z : Nat} : ∀ (t : Ord) (L : List Nat) (b : Bool) (s : List Value) (h : View) (O : Hp), (∃ w, Val h O w) → OrdOk P ops t L b → z ∈ L → Free ops z L → (b = true → z ∈ t.heads) →
    ordP P ops K t s h O → SOps P ops (ordP P ops K (t.cut z)) [z] s h O
  | .nil, L, b, s, h, O, _, hg, hz, _, _, _ => by rw [hg.1] at hz; cases hz
  | .one x t, L, b, s, h, O, ⟨w, hv⟩, ⟨_, hx, hc, hg⟩, hz, hf, _, hk => by
    unfold Ord.cut
    by_cases e : x = z
    · rw [decide_eq_true e]
      subst e
      exact hk
    · rw [decide_eq_false e]
      have hk2 : SOps P ops (ordP P ops K (t.cut z)) ([x] ++ z :: []) s h O := by
        obtain ⟨ox, hox, hk⟩ := hk
        refine ⟨ox, hox, hk.monoV hv fun s2 h2 O2 hv2 k2 => ?_⟩
        exact ordP.front hsel t (L.erase x) false s2 h2 O2 hv2 hg ((List.mem_erase_of_ne (Ne.symm e)).2 hz) hf.erase (fun e => by cases e) k2
      have hcz : ∀ a ∈ [x], comm2 P ops a z = true := fun a ha => by
        obtain rfl := List.mem_singleton.1 ha
        rcases hc z hz with h1 | h1 | h1
        · exact absurd h1.symm e
        · exact h1
        · exact absurd h1 (hf a hx e)
      obtain ⟨oz, hoz, hk3⟩ := SOps.front hsel [x] [] s h O ⟨w, hv⟩ hcz hk2
      exact ⟨oz, hoz, hk3⟩
  | .fst x t, L, b, s, h, O, _, ⟨hx, hb, hg⟩, hz, hf, hbz, hk => by
    have e : z = x := by
      rcases hb with hb | hb
      · exact List.mem_singleton.1 (hbz hb)
      · exact List.mem_singleton.1 (hb.free hz hf)
    subst e
    exact hk
  | .fork t u, L, b, s, h, O, hv, ⟨hb, hg1, hg2⟩, hz, hf, hbz, hk => by
    have hm : z ∈ t.heads ++ u.heads := by
      rcases hb with hb | hb
      · exact hbz hb
      · exact hb.free hz hf
    unfold Ord.cut
    cases e : t.heads.any (Nat.beq z) with
    | true =>
      have h1 : z ∈ t.heads := by
        obtain ⟨y, hy, he⟩ := List.any_eq_true.1 e
        rw [Nat.eq_of_beq_eq_true he]; exact hy
      exact ordP.front hsel t L true s h O hv hg1 hz hf (fun _ => h1) hk.1
    | false =>
      have h1 : z ∈ u.heads := by
        rcases List.mem_append.1 hm with h1 | h1
        · have : t.heads.any (Nat.beq z) = true := List.any_eq_true.2 ⟨z, h1, by simp⟩
          rw [this] at e; cases e
        · exact h1
      exact ordP.front hsel u L true s h O hv hg2 hz hf (fun _ => h1) hk.2
theorem OrdOk.cut {ops : Array Oper} {z : Nat} : ∀ (t : Ord) (L : List Nat) (b : Bool), OrdOk P ops t L b → z ∈ L → Free ops z L → (b = true → z ∈ t.heads) → OrdOk P ops (t.cut z) (L.erase z) false
  | .nil, L, b, hg, hz, _, _ => by rw [hg.1] at hz; cases hz
  | .one x t, L, b, ⟨_, hx, hc, hg⟩, hz, hf, _ => by
    unfold Ord.cut
    by_cases e : x = z
    · rw [decide_eq_true e]
      subst e
      exact hg
    · rw [decide_eq_false e]
      refine ⟨rfl, (List.mem_erase_of_ne e).2 hx, fun y hy => hc y (List.mem_of_mem_erase hy), ?_⟩
      rw [List.erase_comm]
      exact OrdOk.cut t (L.erase x) false hg ((List.mem_erase_of_ne (Ne.symm e)).2 hz) hf.erase fun e => by cases e
  | .fst x t, L, b, ⟨hx, hb, hg⟩, hz, hf, hbz => by
    have e : z = x := by
      rcases hb with hb | hb
      · exact List.mem_singleton.1 (hbz hb)
      · exact List.mem_singleton.1 (hb.free hz hf)
    subst e
    exact hg
  | .fork t u, L, b, ⟨hb, hg1, hg2⟩, hz, hf, hbz => by
    have hm : z ∈ t.heads ++ u.heads := by
      rcases hb with hb | hb
      · exact hbz hb
      · exact hb.free hz hf
    unfold Ord.cut
    cases e : t.heads.any (Nat.beq z) with
    | true =>
      have h1 : z ∈ t.heads := by
        obtain ⟨y, hy, he⟩ := List.any_eq_true.1 e
        rw [Nat.eq_of_beq_eq_true he]; exact hy
      exact OrdOk.cut t L true hg1 hz hf fun _ => h1
    | false =>
      have h1 : z ∈ u.heads := by
        rcases List.mem_append.1 hm with h1 | h1
        · have : t.heads.any (Nat.beq z) = true := List.any_eq_true.2 ⟨z, h1, by simp⟩
          rw [this] at e; cases e
        · exact h1
      exact OrdOk.cut u L true hg2 hz hf fun _ => h1
theorem OrdOk.done {ops : Array Oper} {K : List Value → View → Hp → Prop} : ∀ (t : Ord) (b : Bool) (s : List Value) (h : View) (O : Hp), OrdOk P ops t [] b → ordP P ops K t s h O → K s h O
  | .nil, _, _, _, _, _, hk => hk
  | .one x t, b, s, h, O, ⟨_, hx, _⟩, _ => by cases hx
  | .fst x t, b, s, h, O, ⟨hx, _⟩, _ => by cases hx
  | .fork t u, b, s, h, O, ⟨_, hg, _⟩, hk => OrdOk.done t true s h O hg hk.1
theorem erase_mid {A B : List Nat} {x : Nat} (h : (A ++ x :: B).Nodup) : (A ++ x :: B).erase x = A ++ B := by
  have hx : x ∉ A := fun hm => by
    rw [List.nodup_append] at h
    exact h.2.2 x hm x (by simp) rfl
  rw [List.erase_append_right _ hx, List.erase_cons_head]
theorem SOps.tree {ops : Array Oper} {K : List Value → View → Hp → Prop} {Q : Exit → Act → World → Prop} (hsel : Region.noSelect ops = true) : ∀ (n : Nat) (t : Ord) (L : List Nat) (listed : Array Bool) (s : List Value) (h : View) (O : Hp) (a : Act) (w : World),
    L.length = n → Inv P (fun _ _ => True) ops L listed → OrdOk P ops t L false → ordP P ops K t s h O → a.tmps = ⟨s⟩ → a.defers = [] → Val h O w →
    (∀ s' h' O' a' w', a'.tmps = ⟨s'⟩ → a'.defers = [] → Step h O w h' O' w' → K s' h' O' → Q .normal a' w') → wpAny P .any ops Q n listed a w := by
  intro n
  induction n with
  | zero =>
    intro t L listed s h O a w hl hi hg hk ha hd hv hq
    have : L = [] := List.eq_nil_of_length_eq_zero hl
    subst this
    refine ⟨?_, hq s h O a w ha hd (Step.refl hv) (OrdOk.done t false s h O hg hk)⟩
    rw [List.eq_nil_iff_forall_not_mem]
    intro j hj
    have := (hi.mem j).2 (mem_ready.1 hj).1
    cases this
  | succ n ih =>
    intro t L listed s h O a w hl hi hg hk ha hd hv hq
    refine ⟨fun he => ?_, fun x hx => ?_⟩
    · cases L with
      | nil => simp at hl
      | cons y L => have := hi.ready; rw [he] at this; cases this
    · have hm := (hi.mem x).2 (mem_ready.1 hx).1
      have hfree : Free ops x L := fun y hy hne hb => absurd hx (hb listed hi.size hi.closed ((hi.mem y).1 hy))
      have hk2 := ordP.front hsel t L false s h O ⟨w, hv⟩ hg hm hfree (fun e => by cases e) hk
      have hg2 := OrdOk.cut t L false hg hm hfree fun e => by cases e
      obtain ⟨A, B, rfl⟩ := List.append_of_mem hm
      rw [erase_mid hi.nodup] at hg2
      obtain ⟨o, ho, hk2⟩ := hk2
      refine hk2.wpOp ho ha hv fun v h' O' w' st k => ?_
      exact ih (t.cut x) (A ++ B) _ _ h' O' _ w' (by simp at hl ⊢; omega) (hi.step hx) hg2 k (put_tmps ha _ _) (by rw [put_defers]; exact hd) st.val
        fun s2 h2 O2 a2 w2 e1 e2 st2 k2 => hq s2 h2 O2 a2 w2 e1 e2 (st.trans st2) k2
/-! ### the check -/
def coverB (ops : Array Oper) (H L : List Nat) : Bool := L.all fun y => H.any (Nat.beq y) || L.any fun z => !Nat.beq z y && edges ops y z
theorem blk_edge {ops : Array Oper} {z y : Nat} (he : edges ops y z = true) : Blk ops z y := fun listed _ _ ha hr => by
  have := edges_ready he hr
  cases h : listed[z]? with
  | none => rw [Array.getD_eq_getD_getElem?, h] at ha; cases ha
  | some v =>
    rw [Array.getD_eq_getD_getElem?, h] at ha this
    simp only [Option.getD_some] at ha this
    rw [ha] at this; cases this
theorem cover_of {ops : Array Oper} {H L : List Nat} (h : coverB ops H L = true) : Cover ops H L := fun y hy => by
  have := List.all_eq_true.1 h y hy
  simp only [Bool.or_eq_true] at this
  rcases this with h1 | h1
  · obtain ⟨b, hb, e⟩ := List.any_eq_true.1 h1
    rw [← Nat.eq_of_beq_eq_true e] at hb
    exact .inl hb
  · obtain ⟨z, hz, e⟩ := List.any_eq_true.1 h1
    simp only [Bool.and_eq_true] at e
    exact .inr ⟨z, hz, fun e2 => by rw [e2] at e; simp at e, blk_edge e.2⟩
def ordOkB (P : Program) (ops : Array Oper) : Ord → List Nat → Bool → Bool
  | .nil, L, b => L.isEmpty && !b
  | .one x t, L, b => let R := L.erase x; let B := hang ops [x] R; !b && L.any (Nat.beq x) && (R.all fun y => comm2 P ops x y || (B.any (Nat.beq y) && !Nat.beq y x)) && ordOkB P ops t R false
  | .fst x t, L, b => L.any (Nat.beq x) && (b || coverB ops [x] L) && ordOkB P ops t (L.erase x) false
  | .fork t u, L, b => (b || coverB ops (t.heads ++ u.heads) L) && ordOkB P ops t L true && ordOkB P ops u L true
theorem mem_any {L : List Nat} {x : Nat} (h : L.any (Nat.beq x) = true) : x ∈ L := by
  obtain ⟨b, hb, e⟩ := List.any_eq_true.1 h
  rw [Nat.eq_of_beq_eq_true e]; exact hb
theorem ordOk_of {ops : Array Oper} : ∀ (t : Ord) (L : List Nat) (b : Bool), ordOkB P ops t L b = true → OrdOk P ops t L b
  | .nil, L, b, h => by
    simp only [ordOkB, Bool.and_eq_true] at h
    exact ⟨by simpa using h.1, by simpa using h.2⟩
  | .one x t, L, b, h => by
    simp only [ordOkB, Bool.and_eq_true] at h
    obtain ⟨⟨⟨h1, h2⟩, h3⟩, h4⟩ := h
    refine ⟨by simpa using h1, mem_any h2, fun y hy => ?_, ordOk_of t _ _ h4⟩
    by_cases e : y = x
    · exact .inl e
    · have := List.all_eq_true.1 h3 y ((List.mem_erase_of_ne e).2 hy)
      simp only [Bool.or_eq_true, Bool.and_eq_true] at this
      rcases this with h5 | h5
      · exact .inr (.inl h5)
      · exact .inr (.inr (blk_of (mem_any h5.1) e))
  | .fst x t, L, b, h => by
    simp only [ordOkB, Bool.and_eq_true, Bool.or_eq_true] at h
    obtain ⟨⟨h1, h2⟩, h3⟩ := h
    exact ⟨mem_any h1, h2.imp id cover_of, ordOk_of t _ _ h3⟩
  | .fork t u, L, b, h => by
    simp only [ordOkB, Bool.and_eq_true, Bool.or_eq_true] at h
    obtain ⟨⟨h1, h2⟩, h3⟩ := h
    exact ⟨h1.imp id cover_of, ordOk_of t _ _ h2, ordOk_of u _ _ h3⟩
def topoB (ops : Array Oper) : List Nat → Bool
  | [] => true
  | a :: r => (r.all fun x => !edges ops a x) && topoB ops r
theorem topo_of {ops : Array Oper} : ∀ L : List Nat, topoB ops L = true → L.Pairwise fun a x => (x = a ∨ comm2 P ops a x = true ∨ Blk ops a x ∨ True) ∧ edges ops a x = false
  | [], _ => .nil
  | a :: r, h => by
    simp only [topoB, Bool.and_eq_true] at h
    refine .cons (fun x hx => ⟨.inr (.inr (.inr trivial)), ?_⟩) (topo_of r h.2)
    have := List.all_eq_true.1 h.1 x hx
    simpa using this
def drawOkO (P : Program) (ops : Array Oper) (t : Ord) (L : List Nat) : Bool :=
  topoB ops L && Nat.beq L.length ops.size && L.all (fun i => Nat.blt i ops.size && !edges ops i i) && (List.range ops.size).all (fun i => L.any (Nat.beq i)) &&
    ops.toList.all (fun o => o.after.toList.all fun e => !Region.binds .any e || Nat.blt e.on ops.size) && Region.noSelect ops && noRep L && ordOkB P ops t L false
theorem Inv.startO {ops : Array Oper} {t : Ord} {L : List Nat} (h : drawOkO P ops t L = true) : Inv P (fun _ _ => True) ops L (Array.replicate ops.size false) ∧ L.length = ops.size ∧ Region.noSelect ops = true ∧ OrdOk P ops t L false := by
  unfold drawOkO at h
  simp only [Bool.and_eq_true] at h
  obtain ⟨⟨⟨⟨⟨⟨⟨h1, h2⟩, h3⟩, h4⟩, h5⟩, h6⟩, h7⟩, h8⟩ := h
  have hlen := Nat.eq_of_beq_eq_true h2
  have hin : ∀ i, i < ops.size → i ∈ L := by
    intro i hi
    have := List.all_eq_true.1 h4 i (List.mem_range.2 hi)
    exact mem_any this
  have hlt : ∀ i ∈ L, i < ops.size ∧ edges ops i i = false := by
    intro i hi
    have := List.all_eq_true.1 h3 i hi
    simp only [Bool.and_eq_true] at this
    exact ⟨Nat.le_of_ble_eq_true this.1, by simpa using this.2⟩
  have hnd : L.Nodup := noRep_nodup _ h7
  refine ⟨⟨by simp, fun i => ?_, hnd, topo_of _ h1, fun i hi => (hlt i hi).2, fun i j _ hl => ?_, fun i j he => ?_⟩, hlen, h6, ordOk_of _ _ _ h8⟩
  · constructor
    · intro hi; simp [Array.getD_eq_getD_getElem?, (hlt i hi).1]
    · intro hi
      refine hin i ?_
      rcases Nat.lt_or_ge i ops.size with h7 | h7
      · exact h7
      · rw [Array.getD_eq_getD_getElem?, Array.getElem?_eq_none (by simpa using h7)] at hi; cases hi
  · exfalso
    simp only [Array.getD_eq_getD_getElem?, Array.getElem?_replicate] at hl
    split at hl <;> simp at hl
  · unfold edges at he
    rw [Array.getElem?_toList] at he
    cases ho : ops[i]? with
    | none => rw [ho] at he; cases he
    | some o =>
      rw [ho] at he
      simp only [List.any_eq_true, Bool.and_eq_true] at he
      obtain ⟨e, hm, hb, hj⟩ := he
      have := List.all_eq_true.1 (List.all_eq_true.1 h5 o (by simpa using Array.mem_of_getElem? ho)) e hm
      rw [hb] at this
      simp only [Bool.not_true, Bool.false_or] at this
      rw [← Nat.eq_of_beq_eq_true hj]
      exact Nat.le_of_ble_eq_true this
def ordG (P : Program) (ops : Array Oper) (K : List Value → View → Hp → Prop) : Ord → List Value → View → Hp → Prop
  | .nil => fun s h O => NextSt (K s h O)
  | .one x t => fun s h O => opsG P ops.toList [x] s h O (ordG P ops K t)
  | .fst x t => fun s h O => opsG P ops.toList [x] s h O (ordG P ops K t)
  | .fork t u => fun s h O => ordG P ops K t s h O ∧ ordG P ops K u s h O
theorem ordP.of_G {ops : Array Oper} {K : List Value → View → Hp → Prop} : ∀ (t : Ord) (s : List Value) (h : View) (O : Hp), ordG P ops K t s h O → ordP P ops K t s h O
  | .nil, _, _, _, k => NextSt.out k
  | .one x t, s, h, O, k => SOps.mono (fun s h O k => ordP.of_G t s h O k) [x] s h O (SOps.of_opsG _ s h O k)
  | .fst x t, s, h, O, k => SOps.mono (fun s h O k => ordP.of_G t s h O k) [x] s h O (SOps.of_opsG _ s h O k)
  | .fork t u, s, h, O, k => ⟨ordP.of_G t s h O k.1, ordP.of_G u s h O k.2⟩
/-- A tree of orders. L: an order that goes. -/
theorem DrawSt.walkO {ops : Array Oper} {s : List Value} {h : View} {O : Hp} {K : List Value → View → Hp → Prop} (t : Ord) (L : List Nat) (hm : P.follows .mixedOrders = true) (hL : drawOkO P ops t L = true)
    (hk : ordG P ops K t s h O) : DrawSt P ops s h O K := by
  refine .mk fun id Q a w ha hd hv hq => wp_region_any hm ?_
  obtain ⟨hi, hlen, hsel, hg⟩ := Inv.startO hL
  have st := hv.drawn (w.drawn + 1)
  refine SOps.tree (K := K) hsel ops.size t L _ s h O a _ hlen hi hg (ordP.of_G t s h O hk) ha hd st.val fun s2 h2 O2 a2 w2 e1 e2 st2 k2 => hq s2 h2 O2 a2 w2 e1 e2 (st.trans st2) k2
end Gv
end Go
