/- Books: the plain laws. -/
import Derived.Test.YtlbmlimaobkhpaaRf
set_option linter.unusedVariables false
set_option linter.unusedSimpArgs false
set_option linter.unusedSectionVars false
/- Books on disks: taking succeeds where there is room, does not depend on order, and needs no second time. No program in sight. -/
namespace Go.Proofs.Ytlbmlimaobkhpaa
set_option linter.unusedSimpArgs false
set_option linter.unusedVariables false

/-! ### the order of bodies -/
theorem bl_irr : ∀ a : Str, Op.bytesLess a a = false
  | [] => rfl
  | a :: x => by simp [Op.bytesLess, bl_irr x]
theorem bl_tri : ∀ a b : Str, Op.bytesLess a b = false → Op.bytesLess b a = false → a = b
  | [], [], _, _ => rfl
  | [], _ :: _, h, _ => by simp [Op.bytesLess] at h
  | _ :: _, [], _, h => by simp [Op.bytesLess] at h
  | a :: x, b :: y, h1, h2 => by
    simp only [Op.bytesLess, Bool.or_eq_false_iff, decide_eq_false_iff_not, Bool.and_eq_false_iff, beq_eq_false_iff_ne] at h1 h2
    have e : a = b := by
      have := UInt8.not_lt.1 h1.1
      have := UInt8.not_lt.1 h2.1
      exact UInt8.le_antisymm ‹_› ‹_›
    subst e
    rw [bl_tri x y (h1.2.resolve_left fun h => h rfl) (h2.2.resolve_left fun h => h rfl)]
theorem bl_trans : ∀ a b c : Str, Op.bytesLess a b = true → Op.bytesLess b c = true → Op.bytesLess a c = true
  | _, [], _, h, _ => by simp [Op.bytesLess] at h
  | _, _ :: _, [], _, h => by simp [Op.bytesLess] at h
  | [], _ :: _, _ :: _, _, _ => rfl
  | a :: x, b :: y, c :: z, h1, h2 => by
    simp only [Op.bytesLess, Bool.or_eq_true, decide_eq_true_eq, Bool.and_eq_true, beq_iff_eq] at h1 h2 ⊢
    rcases h1 with h1 | ⟨rfl, h1⟩ <;> rcases h2 with h2 | ⟨rfl, h2⟩
    · exact .inl (UInt8.lt_trans h1 h2)
    · exact .inl h1
    · exact .inl h2
    · exact .inr ⟨rfl, bl_trans x y z h1 h2⟩
theorem bl_le_trans {a b c : Str} (h1 : Op.bytesLess b a = false) (h2 : Op.bytesLess c b = false) : Op.bytesLess c a = false := by
  cases h : Op.bytesLess c a with
  | false => rfl
  | true =>
    cases h3 : Op.bytesLess b c with
    | true => rw [bl_trans b c a h3 h] at h1; cases h1
    | false => rw [bl_tri b c h3 h2, h] at h1; cases h1

/-! ### the best message about a number -/
def aim (p no : Int) (x : En) : Prop := enOk x ∧ x.office = p ∧ x.no = no
def IsB (l : List En) (p no : Int) : Option En → Prop
  | none => ∀ x ∈ l, ¬ aim p no x
  | some e => (e ∈ l ∧ aim p no e) ∧ ∀ x ∈ l, aim p no x → Op.bytesLess x.body e.body = false
theorem IsB.snoc {l : List En} {p no : Int} {acc : Option En} (h : IsB l p no acc) (e : En) : IsB (l ++ [e]) p no (bst1 p no acc e) := by
  unfold bst1
  split
  · rename_i he
    cases acc with
    | none =>
      refine ⟨⟨by simp, he⟩, fun x hx ha => ?_⟩
      rcases List.mem_append.1 hx with h1 | h1
      · exact absurd ha (h x h1)
      · rw [List.mem_singleton.1 h1]; exact bl_irr _
    | some o =>
      obtain ⟨⟨h1, h2⟩, h3⟩ := h
      simp only
      split
      · rename_i hb
        refine ⟨⟨by simp, he⟩, fun x hx ha => ?_⟩
        rcases List.mem_append.1 hx with h4 | h4
        · have := h3 x h4 ha
          cases h5 : Op.bytesLess x.body e.body with
          | false => rfl
          | true => rw [bl_trans _ _ _ h5 hb] at this; cases this
        · rw [List.mem_singleton.1 h4]; exact bl_irr _
      · rename_i hb
        refine ⟨⟨List.mem_append_left _ h1, h2⟩, fun x hx ha => ?_⟩
        rcases List.mem_append.1 hx with h4 | h4
        · exact h3 x h4 ha
        · rw [List.mem_singleton.1 h4]
          cases h5 : Op.bytesLess e.body o.body with
          | false => rfl
          | true => exact absurd h5 hb
  · rename_i he
    cases acc with
    | none =>
      intro x hx
      rcases List.mem_append.1 hx with h1 | h1
      · exact h x h1
      · rw [List.mem_singleton.1 h1]; exact he
    | some o =>
      obtain ⟨⟨h1, h2⟩, h3⟩ := h
      refine ⟨⟨List.mem_append_left _ h1, h2⟩, fun x hx ha => ?_⟩
      rcases List.mem_append.1 hx with h4 | h4
      · exact h3 x h4 ha
      · rw [List.mem_singleton.1 h4] at ha; exact absurd ha he
theorem IsB.fold {p no : Int} : ∀ (l s : List En) (acc : Option En), IsB s p no acc → IsB (s ++ l) p no (l.foldl (bst1 p no) acc)
  | [], s, acc, h => by rw [List.append_nil]; exact h
  | x :: l, s, acc, h => by
    have := IsB.fold l (s ++ [x]) _ (h.snoc x)
    rw [List.append_assoc] at this
    exact this
theorem bst_isB (l : List En) (p no : Int) : IsB l p no (bst l p no) := IsB.fold l [] none (fun x hx => by cases hx)
theorem En.same {x y : En} {p no : Int} (hx : aim p no x) (hy : aim p no y) (hb : x.body = y.body) : x = y := by
  obtain ⟨o, n, b⟩ := x
  obtain ⟨o', n', b'⟩ := y
  obtain ⟨_, h1, h2⟩ := hx
  obtain ⟨_, h3, h4⟩ := hy
  simp only at h1 h2 h3 h4 hb
  subst h1 h2 h3 h4 hb
  rfl
theorem IsB.uniq {l l' : List En} {p no : Int} (hm : ∀ x, x ∈ l ↔ x ∈ l') : ∀ {a b : Option En}, IsB l p no a → IsB l' p no b → a = b
  | none, none, _, _ => rfl
  | none, some e, h, h' => absurd h'.1.2 (h e ((hm e).2 h'.1.1))
  | some e, none, h, h' => absurd h.1.2 (h' e ((hm e).1 h.1.1))
  | some e, some o, h, h' => by
    have h1 := h.2 o ((hm o).2 h'.1.1) h'.1.2
    have h2 := h'.2 e ((hm e).1 h.1.1) h.1.2
    rw [En.same h.1.2 h'.1.2 (bl_tri _ _ h2 h1)]
theorem bst_mem {l : List En} {p no : Int} {e : En} (h : bst l p no = some e) : e ∈ l := by
  have := bst_isB l p no
  rw [h] at this
  exact this.1.1
/-! ### a disk whose power stays -/
namespace Dk
structure quiet (d : Dk) : Prop where
  on : d.off = false
  armed : d.armed = 0
theorem quiet.strike {d : Dk} (h : quiet d) : d.strike = (d, false) := if_pos h.armed
theorem quiet.write {d : Dk} (h : quiet d) {i : Nat} {s : Str} (hi : i < d.safe.length) (hs : s.length = 64) : d.write i s = ({ d with waits := d.waits ++ [(i, s)] }, 0) := by
  have e1 : d.err i = 0 := by
    unfold Dk.err
    rw [if_neg (by rw [h.on]; decide), if_pos (by omega)]
  have e2 : (⟨d.safe, d.waits ++ [((i : Int).toNat, s)], d.off, d.armed, d.falls⟩ : Dk).strike = (⟨d.safe, d.waits ++ [((i : Int).toNat, s)], d.off, d.armed, d.falls⟩, false) := if_pos h.armed
  unfold Dk.write
  rw [if_neg (by rw [e1]; exact fun h => h rfl), if_neg (by rw [hs]; exact fun h => h rfl)]
  simp only [e2]
  rfl
theorem quiet.sync {d : Dk} (h : quiet d) : d.sync = ({ d with safe := settle d.safe d.waits, waits := [] }, 0) := by
  unfold Dk.sync
  rw [if_neg (by rw [h.on]; decide), h.strike, if_neg Bool.false_ne_true]
def opIn (n : Nat) : Op → Prop
  | some (i, s) => i < n ∧ s.length = 64
  | none => True
theorem quiet.op {d : Dk} (h : quiet d) : ∀ {o : Op}, opIn d.safe.length o → (d.op o).2 = 0 ∧ quiet (d.op o).1 ∧ (d.op o).1.falls = d.falls
  | some (i, s), ho => by
    show (d.write i s).2 = 0 ∧ quiet (d.write i s).1 ∧ (d.write i s).1.falls = d.falls
    rw [h.write ho.1 ho.2]
    exact ⟨rfl, ⟨h.on, h.armed⟩, rfl⟩
  | none, _ => by
    show d.sync.2 = 0 ∧ quiet d.sync.1 ∧ d.sync.1.falls = d.falls
    rw [h.sync]
    exact ⟨rfl, ⟨h.on, h.armed⟩, rfl⟩
theorem quiet.ops : ∀ (l : List Op) {d : Dk}, quiet d → (∀ o ∈ l, opIn d.safe.length o) → (d.ops l).2 = 0 ∧ quiet (d.ops l).1 ∧ (d.ops l).1.falls = d.falls
  | [], d, h, _ => ⟨rfl, h, rfl⟩
  | o :: l, d, h, ho => by
    obtain ⟨h1, h2, h3⟩ := h.op (ho o (List.Mem.head _))
    rw [ops_cons0 h1]
    obtain ⟨h4, h5, h6⟩ := quiet.ops l h2 fun x hx => by rw [op_len]; exact ho x (List.mem_cons_of_mem _ hx)
    exact ⟨h4, h5, h6.trans h3⟩
theorem quiet.mk0 (n : Nat) : quiet (Dk.mk0 n) := ⟨rfl, rfl⟩
end Dk
theorem zs_len : zs.length = 64 := by simp [zs]
theorem getD_mem' {α : Type} {l : List α} {i : Nat} {d : α} (h : i < l.length) : l.getD i d ∈ l := by
  rw [List.getD_eq_getElem?_getD, List.getElem?_eq_getElem h]; exact List.getElem_mem h
theorem kops_in {n at_ : Nat} {p : Str} (h : at_ + secN p.length ≤ n) : ∀ o ∈ kops n at_ p, Dk.opIn n o := by
  have h1 : 1 ≤ secN p.length := by unfold secN; omega
  have hl := laidV_len p
  intro o ho
  unfold kops at ho
  rcases List.mem_append.1 ho with h2 | h2
  · unfold wrs at h2
    obtain ⟨i, hi, rfl⟩ := List.mem_map.1 h2
    rw [List.mem_range] at hi
    refine ⟨by omega, ?_⟩
    exact laidV_mem _ (List.mem_of_mem_drop (getD_mem' (by rw [List.length_drop]; omega)))
  · rcases List.mem_append.1 h2 with h3 | h3
    · split at h3
      · rw [List.mem_singleton.1 h3]; exact ⟨by omega, zs_len⟩
      · cases h3
    · simp only [List.mem_cons, List.not_mem_nil, or_false] at h3
      rcases h3 with rfl | rfl | rfl
      · trivial
      · exact ⟨by omega, laidV_mem _ (getD_mem' (by omega))⟩
      · trivial
theorem keep_fine {d : Dk} (h : d.quiet) {at_ : Nat} {p : Str} (hr : at_ + secN p.length ≤ d.safe.length) : (keepV d at_ p).2 = 0 ∧ (keepV d at_ p).1.quiet ∧ (keepV d at_ p).1.falls = d.falls := by
  unfold keepV
  rw [if_neg (by omega)]
  exact Dk.quiet.ops _ h (kops_in hr)
/-- A book that is up, on a disk whose power stays. -/
structure fine (S : DB) : Prop where
  d : S.1.quiet
  falls : S.2.falls = S.1.falls
theorem fine.up {S : DB} (h : fine S) : ¬ downV S := fun hd => hd h.falls
theorem putV_full {S : DB} {e : En} (h : (keepV S.1 S.2.at_ (payE e)).2 = 0) : putV S e = (((keepV S.1 S.2.at_ (payE e)).1, ⟨chgd S.2.logs e, S.2.at_ + secN (payE e).length, S.2.falls⟩), 0) := if_pos h
theorem put_fine {S : DB} (h : fine S) {e : En} (he : enOk e) (hr : S.2.at_ + 17 ≤ S.1.safe.length) :
    (putV S e).2 = 0 ∧ fine (putV S e).1 ∧ (putV S e).1.2.at_ ≤ S.2.at_ + 17 ∧ (putV S e).1.1.safe.length = S.1.safe.length ∧ (putV S e).1.2.logs = chgd S.2.logs e := by
  have h1 := secN_pay he
  obtain ⟨h2, h3, h4⟩ := keep_fine h.d (p := payE e) (at_ := S.2.at_) (by omega)
  rw [putV_full h2]
  exact ⟨rfl, ⟨h3, h.falls.trans h4.symm⟩, by show S.2.at_ + _ ≤ _; omega, keepV_len _ _ _, rfl⟩

/-! ### room -/
theorem countP_lt {α : Type} {P Q : α → Bool} (h : ∀ x, P x = true → Q x = true) {e : α} (he : Q e = true) (hn : P e = false) : ∀ l : List α, e ∈ l → l.countP P + 1 ≤ l.countP Q
  | x :: l, hm => by
    have hle : l.countP P ≤ l.countP Q := List.countP_mono_left fun x _ => h x
    rw [List.countP_cons, List.countP_cons]
    by_cases hx : e = x
    · subst hx
      rw [he, hn]
      simp; exact hle
    · have := countP_lt h he hn l (by
        rcases List.mem_cons.1 hm with h1 | h1
        · exact absurd h1 hx
        · exact h1)
      cases hp : P x with
      | true => rw [h x hp]; simp; omega
      | false => cases Q x <;> simp <;> omega
/-- Of office p from a number on, and of later offices. -/
def aft (p no : Nat) (e : En) : Bool := decide (p < e.office.toNat ∨ e.office.toNat = p ∧ no ≤ e.no.toNat)
def cnt (l : List En) (p no : Nat) : Nat := l.countP (aft p no)
theorem cnt_le (l : List En) (p no : Nat) : cnt l p no ≤ l.length := List.countP_le_length
theorem cnt_next (l : List En) (p no : Nat) : cnt l p (no + 1) ≤ cnt l p no := List.countP_mono_left fun x _ h => by
  unfold aft at h ⊢
  rw [decide_eq_true_iff] at h ⊢
  omega
theorem cnt_office (l : List En) (p no : Nat) : cnt l (p + 1) 0 ≤ cnt l p no := List.countP_mono_left fun x _ h => by
  unfold aft at h ⊢
  rw [decide_eq_true_iff] at h ⊢
  omega
theorem cnt_bst {l : List En} {p no : Nat} {e : En} (h : bst l p no = some e) : cnt l p (no + 1) + 1 ≤ cnt l p no := by
  obtain ⟨_, h1, h2⟩ := bst_ok h
  refine countP_lt (e := e) (fun x hx => ?_) ?_ ?_ l (bst_mem h)
  · unfold aft at hx ⊢
    rw [decide_eq_true_iff] at hx ⊢
    omega
  · unfold aft; rw [decide_eq_true_iff]; omega
  · unfold aft; rw [decide_eq_false_iff_not]; omega
structure room (k : Nat) (S T : DB) : Prop where
  at_ : T.2.at_ ≤ S.2.at_ + k
  len : T.1.safe.length = S.1.safe.length
theorem takeIn_fine (l : List En) (p : Nat) : ∀ f no S n, fine S → S.2.at_ + 17 * cnt l p no ≤ S.1.safe.length →
    (takeIn l p f no S n).err = 0 ∧ fine (takeIn l p f no S n).S ∧ (takeIn l p f no S n).S.1.safe.length = S.1.safe.length ∧ (takeIn l p f no S n).S.2.at_ + 17 * cnt l (p + 1) 0 ≤ S.2.at_ + 17 * cnt l p no
  | 0, no, S, n, h, hr => ⟨rfl, h, rfl, by have := cnt_office l p no; show S.2.at_ + _ ≤ _; omega⟩
  | f + 1, no, S, n, h, hr => by
    have h1 := cnt_next l p no
    have h2 := cnt_office l p no
    unfold takeIn
    split
    · split
      · rename_i e he
        have h3 := cnt_bst he
        split
        · obtain ⟨p1, p2, p3, p4, p5⟩ := put_fine h (e := e) (bst_ok he).1 (by omega)
          rw [if_pos p1]
          obtain ⟨q1, q2, q3, q4⟩ := takeIn_fine l p f (no + 1) (putV S e).1 (n + 1) p2 (by rw [p4]; omega)
          exact ⟨q1, q2, q3.trans p4, by omega⟩
        · obtain ⟨q1, q2, q3, q4⟩ := takeIn_fine l p f (no + 1) S n h (by omega)
          exact ⟨q1, q2, q3, by omega⟩
      · obtain ⟨q1, q2, q3, q4⟩ := takeIn_fine l p f (no + 1) S n h (by omega)
        exact ⟨q1, q2, q3, by omega⟩
    · exact ⟨rfl, h, rfl, by show S.2.at_ + _ ≤ _; omega⟩
theorem takeO_fine (l : List En) : ∀ f p S n, fine S → S.2.at_ + 17 * cnt l p 0 ≤ S.1.safe.length →
    (takeO l f p S n).err = 0 ∧ fine (takeO l f p S n).S ∧ (takeO l f p S n).S.1.safe.length = S.1.safe.length ∧ (takeO l f p S n).S.2.at_ ≤ S.2.at_ + 17 * cnt l p 0
  | 0, p, S, n, h, hr => ⟨rfl, h, rfl, by show S.2.at_ ≤ _; omega⟩
  | f + 1, p, S, n, h, hr => by
    obtain ⟨q1, q2, q3, q4⟩ := takeIn_fine l p 66 0 S n h hr
    unfold takeO
    rw [if_pos q1]
    obtain ⟨r1, r2, r3, r4⟩ := takeO_fine l f (p + 1) _ (takeIn l p 66 0 S n).n q2 (by rw [q3]; omega)
    exact ⟨r1, r2, r3.trans q3, by omega⟩
theorem takeV_up {S : DB} (h : fine S) (l : List En) : takeV S l = takeO l S.2.logs.length 0 S 0 := if_neg h.up
theorem takeV_fine {S : DB} (h : fine S) {l : List En} (hr : S.2.at_ + 17 * l.length ≤ S.1.safe.length) :
    (takeV S l).err = 0 ∧ fine (takeV S l).S ∧ room (17 * l.length) S (takeV S l).S := by
  have h1 := cnt_le l 0 0
  obtain ⟨r1, r2, r3, r4⟩ := takeO_fine l S.2.logs.length 0 S 0 h (by omega)
  rw [takeV_up h]
  exact ⟨r1, r2, ⟨by omega, r3⟩⟩

/-! ### nothing is left to be done -/
def dn (l : List En) (L : List (List En)) (p : Nat) : Prop := ∀ (k : Nat) (e : En), bst l p k = some e → ¬ chg L e
theorem chg_congr {L M : List (List En)} {e : En} (hl : L.length = M.length) (hg : L.getD e.office.toNat [] = M.getD e.office.toNat []) : chg L e ↔ chg M e := by
  unfold chg; rw [hl, hg]
theorem dn_congr {l : List En} {L M : List (List En)} {p : Nat} (hl : L.length = M.length) (hg : L.getD p [] = M.getD p []) (h : dn l L p) : dn l M p := fun k e he hc => by
  obtain ⟨_, h1, _⟩ := bst_ok he
  exact h k e he ((chg_congr hl (by rw [h1, Int.toNat_natCast]; exact hg)).2 hc)
theorem putV_logs {S : DB} {e : En} (h : (putV S e).2 = 0) : (putV S e).1.2.logs = chgd S.2.logs e := by
  unfold putV at h ⊢
  split
  · rfl
  · rename_i h1
    rw [if_neg h1] at h
    exact absurd h h1
theorem takeIn_other (l : List En) (p q : Nat) (hq : q ≠ p) : ∀ f no S n, (takeIn l p f no S n).S.2.logs.getD q [] = S.2.logs.getD q []
  | 0, _, _, _ => rfl
  | f + 1, no, S, n => by
    unfold takeIn
    split
    · split
      · rename_i e he
        obtain ⟨_, h1, _⟩ := bst_ok he
        split
        · rename_i hc
          have hp : (putV S e).1.2.logs.getD q [] = S.2.logs.getD q [] := by
            by_cases h0 : (putV S e).2 = 0
            · rw [putV_logs h0, chgd_get hc.2.1, if_neg (by rw [h1, Int.toNat_natCast]; exact hq)]
            · unfold putV at h0 ⊢
              split
              · rename_i h2; rw [if_pos h2] at h0; exact absurd rfl h0
              · rfl
          split
          · rw [takeIn_other l p q hq f, hp]
          · exact hp
        · exact takeIn_other l p q hq f _ _ _
      · exact takeIn_other l p q hq f _ _ _
    · rfl
theorem takeIn_done (l : List En) (p : Nat) : ∀ f no S n B, okS B S → p < S.2.logs.length → 66 ≤ no + f → (takeIn l p f no S n).err = 0 →
    (∀ k : Nat, k < no → ∀ e, bst l p k = some e → ¬ chg S.2.logs e) → dn l (takeIn l p f no S n).S.2.logs p
  | 0, no, S, n, B, hS, hp, hf, _, hd => fun k e he => by
    by_cases hk : k < no
    · exact hd k hk e he
    · obtain ⟨_, h1, h2⟩ := bst_ok he
      have h3 := hS.wf.log p hp
      show ¬ chg S.2.logs e
      rintro ⟨_, _, h4⟩
      rw [h1, Int.toNat_natCast, h2, Int.toNat_natCast] at h4
      rcases h4 with h4 | ⟨h4, _⟩ <;> omega
  | f + 1, no, S, n, B, hS, hp, hf, herr, hd => by
    have later : ∀ k : Nat, (S.2.logs.getD p []).length < k → ∀ e, bst l p k = some e → ¬ chg S.2.logs e := fun k hk e he => by
      obtain ⟨_, h1, h2⟩ := bst_ok he
      rintro ⟨_, _, h4⟩
      rw [h1, Int.toNat_natCast, h2, Int.toNat_natCast] at h4
      rcases h4 with h4 | ⟨h4, _⟩ <;> omega
    unfold takeIn at herr ⊢
    split at herr
    · rename_i hno
      rw [if_pos hno]
      cases hb : bst l p no with
      | none =>
        rw [hb] at herr
        simp only at herr ⊢
        refine takeIn_done l p f (no + 1) S n B hS hp (by omega) herr fun k hk e he => ?_
        by_cases hk2 : k < no
        · exact hd k hk2 e he
        · have : k = no := by omega
          subst this; rw [hb] at he; cases he
      | some e0 =>
        rw [hb] at herr
        simp only at herr ⊢
        by_cases hc : chg S.2.logs e0
        · rw [if_pos hc] at herr ⊢
          by_cases h0 : (putV S e0).2 = 0
          · rw [if_pos h0] at herr ⊢
            have hlg := putV_logs h0
            refine takeIn_done l p f (no + 1) _ _ _ (hS.put hc) (by rw [putV_len]; exact hp) (by omega) herr fun k hk e he => ?_
            obtain ⟨e1, e2, e3⟩ := bst_ok he
            obtain ⟨z1, z2, z3⟩ := bst_ok hb
            have y2 : e0.office.toNat = p := by omega
            have y3 : e0.no.toNat = no := by omega
            have x2 : e.office.toNat = p := by omega
            have x3 : e.no.toNat = k := by omega
            have hlen : e0.no.toNat = (S.2.logs.getD p []).length ∨ e0.no.toNat < (S.2.logs.getD p []).length := by omega
            have hg : (chgd S.2.logs e0).getD p [] = put1 (S.2.logs.getD p []) e0 := by rw [chgd_get (by omega), if_pos y2.symm]
            rw [hlg]
            rintro ⟨_, c2, c3⟩
            rw [x2, x3, hg, put1_len hlen, put1_get hlen, y3] at c3
            by_cases hk2 : k < no
            · have hn := hd k hk2 e he
              rw [if_neg (by omega)] at c3
              refine hn ⟨e1, by omega, ?_⟩
              rw [x2, x3]
              rcases c3 with c3 | ⟨c3, c4⟩
              · omega
              · exact .inr ⟨by omega, c4⟩
            · have : k = no := by omega
              subst this
              rw [hb] at he; cases he
              rw [if_pos rfl, bl_irr] at c3
              rcases c3 with c3 | c3
              · omega
              · exact absurd c3.2 (by decide)
          · rw [if_neg h0] at herr
            exact absurd herr h0
        · rw [if_neg hc] at herr ⊢
          refine takeIn_done l p f (no + 1) S n B hS hp (by omega) herr fun k hk e he => ?_
          by_cases hk2 : k < no
          · exact hd k hk2 e he
          · have : k = no := by omega
            subst this; rw [hb] at he; cases he; exact hc
    · rename_i hno
      rw [if_neg hno]
      intro k e he
      by_cases hk : k < no
      · exact hd k hk e he
      · exact later k (by omega) e he
theorem takeO_done (l : List En) : ∀ f p S n B, okS B S → p + f = S.2.logs.length → (takeO l f p S n).err = 0 → (∀ q < p, dn l S.2.logs q) → ∀ q < S.2.logs.length, dn l (takeO l f p S n).S.2.logs q
  | 0, p, S, n, B, hS, hf, _, hd => fun q hq => hd q (by omega)
  | f + 1, p, S, n, B, hS, hf, herr, hd => by
    unfold takeO at herr ⊢
    by_cases h0 : (takeIn l p 66 0 S n).err = 0
    · rw [if_pos h0] at herr ⊢
      have hlen := takeIn_len l p 66 0 S n
      rw [← hlen]
      refine takeO_done l f (p + 1) _ _ _ (takeIn_ok l p 66 0 S n B hS) (by rw [hlen]; omega) herr fun q hq => ?_
      by_cases hqp : q = p
      · subst hqp
        exact takeIn_done l q 66 0 S n B hS (by omega) (by omega) h0 fun k hk => by omega
      · exact dn_congr hlen.symm (takeIn_other l p q hqp 66 0 S n).symm (hd q (by omega))
    · rw [if_neg h0] at herr
      exact absurd herr h0
theorem takeIn_none {l : List En} {p : Nat} {S : DB} (h : dn l S.2.logs p) : ∀ f no n, takeIn l p f no S n = ⟨S, n, 0⟩
  | 0, _, _ => rfl
  | f + 1, no, n => by
    unfold takeIn
    split
    · split
      · rename_i e he
        rw [if_neg (h no e he)]
        exact takeIn_none h f _ _
      · exact takeIn_none h f _ _
    · rfl
theorem takeO_none {l : List En} {S : DB} (h : ∀ q < S.2.logs.length, dn l S.2.logs q) : ∀ f p n, p + f ≤ S.2.logs.length → takeO l f p S n = ⟨S, n, 0⟩
  | 0, _, _, _ => rfl
  | f + 1, p, n, hf => by
    unfold takeO
    rw [takeIn_none (h p (by omega))]
    exact takeO_none h f _ _ (by omega)
/-! ### adding what is there -/
theorem flat_mem {L : List (List En)} {e : En} (h : e ∈ L.flatten) : ∃ p < L.length, ∃ i < (L.getD p []).length, (L.getD p []).getD i default = e := by
  obtain ⟨q, hq, he⟩ := List.mem_flatten.1 h
  obtain ⟨p, hp, rfl⟩ := List.getElem_of_mem hq
  obtain ⟨i, hi, rfl⟩ := List.getElem_of_mem he
  have e1 : L.getD p [] = L[p] := by rw [List.getD_eq_getElem?_getD, List.getElem?_eq_getElem hp]; rfl
  refine ⟨p, hp, i, by rw [e1]; exact hi, ?_⟩
  rw [e1, List.getD_eq_getElem?_getD, List.getElem?_eq_getElem hi]; rfl
/-! ### a new book -/
theorem payB_len' (n : Nat) : (payB n).length = 2 := rfl
/-- A new book of o offices on a new disk of n sectors. -/
def new0 (n o : Nat) : DB := ((keepV (Dk.mk0 n) 0 (payB o)).1, ⟨List.replicate o [], 1, 0⟩)
theorem mk0_len (n : Nat) : (Dk.mk0 n).safe.length = n := by simp [Dk.mk0]
theorem new0_keep {n o : Nat} (hn : 1 ≤ n) : (keepV (Dk.mk0 n) 0 (payB o)).2 = 0 ∧ (keepV (Dk.mk0 n) 0 (payB o)).1.quiet ∧ (keepV (Dk.mk0 n) 0 (payB o)).1.falls = 0 :=
  keep_fine (Dk.quiet.mk0 n) (by rw [mk0_len, payB_len']; exact hn)
theorem new0_fine {n o : Nat} (hn : 1 ≤ n) : fine (new0 n o) := ⟨(new0_keep hn).2.1, (new0_keep hn).2.2.symm⟩
theorem new0_len (n o : Nat) : (new0 n o).1.safe.length = n := (keepV_len _ _ _).trans (mk0_len n)
theorem new0_ok {n o : Nat} (hn : 1 ≤ n ∧ n ≤ 4096) (ho : o ≤ 8) : okS 20 (new0 n o) := by
  have h1 := keepV_okB (Dk.okB.mk0 hn.2) 0 (payB o)
  exact ⟨h1.mono (by rw [payB_len']; decide), wfL.nil ho, by rw [new0_len]; exact hn.1⟩
end Go.Proofs.Ytlbmlimaobkhpaa
/- Books: what taking leaves; two books that take what they want of each other. No program in sight. -/
namespace Go.Proofs.Ytlbmlimaobkhpaa
set_option linter.unusedSimpArgs false
set_option linter.unusedVariables false
theorem bl_asym {a b : Str} (h : Op.bytesLess a b = true) : Op.bytesLess b a = false := by
  cases h2 : Op.bytesLess b a with
  | false => rfl
  | true => have := bl_trans a b a h h2; rw [bl_irr] at this; cases this
/-- Logs that came from others by messages of a list. -/
structure Came (l : List En) (L T : List (List En)) : Prop where
  len : T.length = L.length
  le : ∀ p, (L.getD p []).length ≤ (T.getD p []).length
  less : ∀ p i, i < (L.getD p []).length → Op.bytesLess ((L.getD p []).getD i default).body ((T.getD p []).getD i default).body = false
  got : ∀ p i, i < (T.getD p []).length → (i < (L.getD p []).length ∧ (T.getD p []).getD i default = (L.getD p []).getD i default) ∨ (T.getD p []).getD i default ∈ l
theorem Came.refl (l : List En) (L : List (List En)) : Came l L L := ⟨rfl, fun _ => Nat.le_refl _, fun _ _ _ => bl_irr _, fun _ _ h => .inl ⟨h, rfl⟩⟩
theorem Came.trans {l : List En} {L M T : List (List En)} (h : Came l L M) (h2 : Came l M T) : Came l L T := by
  refine ⟨h2.len.trans h.len, fun p => Nat.le_trans (h.le p) (h2.le p), fun p i hi => ?_, fun p i hi => ?_⟩
  · exact bl_le_trans (h2.less p i (Nat.lt_of_lt_of_le hi (h.le p))) (h.less p i hi)
  · rcases h2.got p i hi with ⟨h3, e⟩ | h3
    · rw [e]; exact h.got p i h3
    · exact .inr h3
theorem Came.mono {l m : List En} {L T : List (List En)} (h : Came l L T) (hm : ∀ e ∈ l, e ∈ m) : Came m L T := ⟨h.len, h.le, h.less, fun p i hi => (h.got p i hi).imp id (hm _)⟩
theorem Came.put {l : List En} {L : List (List En)} {e : En} (hc : chg L e) (he : e ∈ l) : Came l L (chgd L e) := by
  obtain ⟨h1, h2, h3⟩ := hc
  have h4 : e.no.toNat = (L.getD e.office.toNat []).length ∨ e.no.toNat < (L.getD e.office.toNat []).length := h3.imp id And.left
  refine ⟨chgd_len _ _, fun p => ?_, fun p i hi => ?_, fun p i hi => ?_⟩
  · rw [chgd_get h2]
    split
    · rename_i e1; subst e1; rw [put1_len h4]; omega
    · exact Nat.le_refl _
  · rw [chgd_get h2]
    split
    · rename_i e1; subst e1
      rw [put1_get h4]
      split
      · rename_i e2
        rw [← e2] at h3
        rcases h3 with h3 | h3
        · omega
        · exact bl_asym h3.2
      · exact bl_irr _
    · exact bl_irr _
  · rw [chgd_get h2] at hi ⊢
    split at hi
    · rename_i e1; subst e1
      rw [if_pos rfl, put1_get h4]
      rw [put1_len h4] at hi
      split
      · exact .inr he
      · rename_i e2
        exact .inl ⟨by omega, rfl⟩
    · rename_i e1
      rw [if_neg e1]
      exact .inl ⟨hi, rfl⟩
theorem putV_came {l : List En} {S : DB} {e : En} (hc : chg S.2.logs e) (he : e ∈ l) : Came l S.2.logs (putV S e).1.2.logs := by
  unfold putV
  split
  · exact Came.put hc he
  · exact Came.refl _ _
theorem takeIn_came (l : List En) (p : Nat) : ∀ f no S n, Came l S.2.logs (takeIn l p f no S n).S.2.logs
  | 0, _, S, _ => Came.refl _ _
  | f + 1, no, S, n => by
    unfold takeIn
    split
    · split
      · rename_i e he
        split
        · rename_i hc
          have h1 := putV_came hc (bst_mem he)
          split
          · exact h1.trans (takeIn_came l p f _ _ _)
          · exact h1
        · exact takeIn_came l p f _ _ _
      · exact takeIn_came l p f _ _ _
    · exact Came.refl _ _
theorem takeO_came (l : List En) : ∀ f p S n, Came l S.2.logs (takeO l f p S n).S.2.logs
  | 0, _, S, _ => Came.refl _ _
  | f + 1, p, S, n => by
    unfold takeO
    split
    · exact (takeIn_came l p 66 0 S n).trans (takeO_came l f _ _ _)
    · exact takeIn_came l p 66 0 S n
theorem takeV_came (S : DB) (l : List En) : Came l S.2.logs (takeV S l).S.2.logs := by
  unfold takeV
  split
  · exact Came.refl _ _
  · exact takeO_came _ _ _ _ _
theorem takeV_done {B : Nat} {S : DB} (hS : okS B S) (h : fine S) {l : List En} (h0 : (takeV S l).err = 0) : ∀ q < S.2.logs.length, dn l (takeV S l).S.2.logs q := by
  rw [takeV_up h] at h0 ⊢
  exact fun q hq => takeO_done l _ 0 S 0 B hS (by omega) h0 (fun q hq => by omega) q hq
/-- What a message that was taken in leaves. -/
theorem dn_le {l : List En} {T : List (List En)} {p i : Nat} {e : En} (hp : p < T.length) (hd : dn l T p) (he : e ∈ l) (ha : aim p i e) : i ≠ (T.getD p []).length ∧ (i < (T.getD p []).length → Op.bytesLess e.body ((T.getD p []).getD i default).body = false) := by
  have hb := bst_isB l p i
  cases hg : bst l p i with
  | none => rw [hg] at hb; exact absurd ha (hb e he)
  | some b =>
    rw [hg] at hb
    obtain ⟨h1, h2, h3⟩ := bst_ok hg
    have hn := hd i b hg
    have hno : ¬ (i = (T.getD p []).length ∨ i < (T.getD p []).length ∧ Op.bytesLess b.body ((T.getD p []).getD i default).body = true) := by
      intro hx
      refine hn ⟨h1, by omega, ?_⟩
      rw [h2, Int.toNat_natCast, h3, Int.toNat_natCast]
      exact hx
    refine ⟨fun hx => hno (.inl hx), fun hi => ?_⟩
    have h5 : Op.bytesLess b.body ((T.getD p []).getD i default).body = false := by
      cases h6 : Op.bytesLess b.body ((T.getD p []).getD i default).body with
      | false => rfl
      | true => exact absurd (.inr ⟨hi, h6⟩) hno
    exact bl_le_trans h5 (hb.2 e he ha)
theorem wfL.aim {L : List (List En)} (h : wfL L) {p i : Nat} (hp : p < L.length) (hi : i < (L.getD p []).length) : aim p i ((L.getD p []).getD i default) := h.en p hp i hi
theorem wfL.at_ {L : List (List En)} (h : wfL L) {p i q j : Nat} (hp : p < L.length) (hi : i < (L.getD p []).length) (ha : Go.Proofs.Ytlbmlimaobkhpaa.aim q j ((L.getD p []).getD i default)) : p = q ∧ i = j := by
  obtain ⟨_, h1, h2⟩ := h.en p hp i hi
  obtain ⟨_, h3, h4⟩ := ha
  omega
/-- The lesser of two logs, message by message. -/
structure Half (A B T : List (List En)) : Prop where
  len : T.length = B.length
  cnt : ∀ p < B.length, (T.getD p []).length = max (A.getD p []).length (B.getD p []).length
  leA : ∀ p < B.length, ∀ i < (A.getD p []).length, Op.bytesLess ((A.getD p []).getD i default).body ((T.getD p []).getD i default).body = false
  leB : ∀ p < B.length, ∀ i < (B.getD p []).length, Op.bytesLess ((B.getD p []).getD i default).body ((T.getD p []).getD i default).body = false
  one : ∀ p < B.length, ∀ i < (T.getD p []).length, (i < (A.getD p []).length ∧ (T.getD p []).getD i default = (A.getD p []).getD i default) ∨ (i < (B.getD p []).length ∧ (T.getD p []).getD i default = (B.getD p []).getD i default)
theorem getD_ext {α : Type} {d : α} {l m : List α} (hl : l.length = m.length) (h : ∀ i < l.length, l.getD i d = m.getD i d) : l = m := by
  refine List.ext_getElem hl fun i h1 h2 => ?_
  have := h i h1
  rwa [List.getD_eq_getElem?_getD, List.getD_eq_getElem?_getD, List.getElem?_eq_getElem h1, List.getElem?_eq_getElem h2] at this
theorem Half.eq {A B T U : List (List En)} (h : Half A B T) (g : Half B A U) (hl : A.length = B.length) (hT : wfL T) (hU : wfL U) : T = U := by
  have h1 := h.len
  have h2 := g.len
  refine getD_ext (d := []) (by omega) fun p hp => ?_
  have c1 := h.cnt p (by omega)
  have c2 := g.cnt p (by omega)
  refine getD_ext (d := default) (by omega) fun i hi => ?_
  refine En.same (hT.aim hp hi) (hU.aim (by omega) (by omega)) (bl_tri _ _ ?_ ?_)
  · rcases h.one p (by omega) i hi with ⟨h3, e⟩ | ⟨h3, e⟩
    · rw [e]; exact g.leB p (by omega) i h3
    · rw [e]; exact g.leA p (by omega) i h3
  · rcases g.one p (by omega) i (by omega) with ⟨h3, e⟩ | ⟨h3, e⟩
    · rw [e]; exact h.leB p (by omega) i h3
    · rw [e]; exact h.leA p (by omega) i h3
/-- What one book gets of another: of each message of it this one is in the list, or the book has it. -/
theorem Half.of {A B T : List (List En)} {l : List En} (hl : A.length = B.length) (hA : wfL A) (hT : wfL T) (hc : Came l B T) (hd : ∀ p < B.length, dn l T p)
    (hin : ∀ e ∈ l, ∃ p < A.length, ∃ i < (A.getD p []).length, (A.getD p []).getD i default = e)
    (hall : ∀ p < A.length, ∀ i < (A.getD p []).length, (A.getD p []).getD i default ∈ l ∨ i < (B.getD p []).length ∧ (A.getD p []).getD i default = (B.getD p []).getD i default) : Half A B T := by
  have hTl := hc.len
  have one : ∀ p < B.length, ∀ i < (T.getD p []).length, (i < (A.getD p []).length ∧ (T.getD p []).getD i default = (A.getD p []).getD i default) ∨ (i < (B.getD p []).length ∧ (T.getD p []).getD i default = (B.getD p []).getD i default) := fun p hp i hi => by
    rcases hc.got p i hi with h1 | h1
    · exact .inr h1
    · obtain ⟨q, hq, j, hj, e⟩ := hin _ h1
      have ha := hT.aim (by omega) hi
      rw [← e] at ha
      obtain ⟨rfl, rfl⟩ := hA.at_ hq hj ha
      exact .inl ⟨hj, e.symm⟩
  refine ⟨hTl, fun p hp => ?_, fun p hp i hi => ?_, fun p hp i hi => hc.less p i hi, one⟩
  · have h1 := hc.le p
    have h2 : (A.getD p []).length ≤ (T.getD p []).length := by
      rcases Nat.lt_or_ge (T.getD p []).length (A.getD p []).length with h | h
      · rcases hall p (by omega) _ h with h3 | ⟨h3, _⟩
        · exact absurd rfl (dn_le (by omega) (hd p hp) h3 (hA.aim (by omega) h)).1
        · omega
      · exact h
    have h3 : (T.getD p []).length ≤ max (A.getD p []).length (B.getD p []).length := by
      rcases Nat.lt_or_ge (max (A.getD p []).length (B.getD p []).length) (T.getD p []).length with h | h
      · rcases one p hp _ h with ⟨h4, _⟩ | ⟨h4, _⟩ <;> omega
      · exact h
    omega
  · rcases hall p (by omega) i hi with h3 | ⟨h3, e⟩
    · have h4 := dn_le (by omega) (hd p hp) h3 (hA.aim (by omega) hi)
      have h5 : i < (T.getD p []).length := by
        have h1 := hc.le p
        rcases Nat.lt_or_ge i (T.getD p []).length with h | h
        · exact h
        · rcases Nat.lt_or_ge (T.getD p []).length (A.getD p []).length with h6 | h6
          · rcases hall p (by omega) _ h6 with h7 | ⟨h7, _⟩
            · exact absurd rfl (dn_le (by omega) (hd p hp) h7 (hA.aim (by omega) h6)).1
            · omega
          · omega
      exact h4.2 h5
    · rw [e]; exact hc.less p i h3
end Go.Proofs.Ytlbmlimaobkhpaa
/- Books: what is read off a disk. No program in sight. -/
namespace Go.Proofs.Ytlbmlimaobkhpaa
open Go Go.Gv
set_option linter.unusedSimpArgs false
set_option linter.unusedVariables false
/-- What is on a disk that has power. -/
def cont (d : Dk) : List Str := Dk.settle d.safe d.waits
theorem cont_len (d : Dk) : (cont d).length = d.safe.length := Dk.settle_length _ _
/-! ### what was laid is read -/
/-- A payload's record is at a sector. -/
structure laidAt (C : List Str) (a : Nat) (p : Str) : Prop where
  le : a + secN p.length ≤ C.length
  get : ∀ j < secN p.length, C.getD (a + j) [] = (laidV p).getD j []
theorem secN_pos (n : Nat) : 1 ≤ secN n := by unfold secN; omega
theorem laidAt.congr {C D : List Str} {a : Nat} {p : Str} (h : laidAt C a p) (hl : D.length = C.length) (hg : ∀ i, i < a + secN p.length → D.getD i [] = C.getD i []) : laidAt D a p :=
  ⟨by rw [hl]; exact h.le, fun j hj => by rw [hg _ (by omega)]; exact h.get j hj⟩

/-! ### opening -/
theorem ofNat8 {n : Nat} (h : n < 256) : (UInt8.ofNat n).toNat = n := by rw [UInt8.toNat_ofNat']; exact Nat.mod_eq_of_lt h
/-- From a sector to another one there are records of messages that change the logs so. -/
inductive Chain (C : List Str) : Nat → List (List En) → Nat → List (List En) → Prop
  | nil (a : Nat) (L : List (List En)) : Chain C a L a L
  | cons {a b : Nat} {L M : List (List En)} (e : En) (h : laidAt C a (payE e)) (hc : chg L e) (t : Chain C (a + secN (payE e).length) (chgd L e) b M) : Chain C a L b M
theorem Chain.le {C : List Str} {a b : Nat} {L M : List (List En)} (h : Chain C a L b M) : a ≤ b := by
  induction h with
  | nil => exact Nat.le_refl _
  | cons e _ _ _ ih => omega
theorem Chain.snoc {C : List Str} {a b : Nat} {L M : List (List En)} (h : Chain C a L b M) {e : En} (hl : laidAt C b (payE e)) (hc : chg M e) : Chain C a L (b + secN (payE e).length) (chgd M e) := by
  induction h with
  | nil a L => exact .cons e hl hc (.nil _ _)
  | cons e' h' hc' _ ih => exact .cons e' h' hc' (ih hl hc)
theorem Chain.congr {C D : List Str} (hl : D.length = C.length) {a b : Nat} {L M : List (List En)} (h : Chain C a L b M) : (∀ i, i < b → D.getD i [] = C.getD i []) → Chain D a L b M := by
  induction h with
  | nil a L => exact fun _ => .nil _ _
  | cons e' h' hc' t ih => exact fun hg => .cons e' (h'.congr hl fun i hi => hg i (Nat.lt_of_lt_of_le hi t.le)) hc' (ih hg)
def endC (C : List Str) (a : Nat) : Prop := a < C.length → (C.getD a []).getD 63 0 ≠ 1
/-- A disk's contents are a book's. -/
structure Holds (C : List Str) (o : Nat) (L : List (List En)) (at_ : Nat) : Prop where
  few : 1 ≤ o ∧ o ≤ 8
  head : laidAt C 0 (payB o)
  chain : Chain C 1 (List.replicate o []) at_ L
  stop : endC C at_
theorem Holds.congr {C D : List Str} {o : Nat} {L : List (List En)} {at_ : Nat} (h : Holds C o L at_) (hl : D.length = C.length) (hg : ∀ i, i < at_ → D.getD i [] = C.getD i []) (he : endC D at_) : Holds D o L at_ := by
  have h1 := h.chain.le
  exact ⟨h.few, h.head.congr hl fun i hi => hg i (by rw [payB_len'] at hi; have : secN 2 = 1 := rfl; omega), h.chain.congr hl hg, he⟩
theorem Holds.snoc {C D : List Str} {o : Nat} {L : List (List En)} {at_ : Nat} (h : Holds C o L at_) (hl : D.length = C.length) (hg : ∀ i, i < at_ → D.getD i [] = C.getD i []) {e : En} (hd : laidAt D at_ (payE e)) (hc : chg L e)
    (he : endC D (at_ + secN (payE e).length)) : Holds D o (chgd L e) (at_ + secN (payE e).length) := by
  have h1 := h.chain.le
  exact ⟨h.few, h.head.congr hl fun i hi => hg i (by rw [payB_len'] at hi; have : secN 2 = 1 := rfl; omega), (h.chain.congr hl hg).snoc hd hc, he⟩

/-! ### what a record's writes leave -/
def opC (C : List Str) : Dk.Op → List Str
  | some (i, s) => C.set i s
  | none => C
theorem op_cont {d : Dk} : ∀ {o : Dk.Op}, (d.op o).2 = 0 → cont (d.op o).1 = opC (cont d) o
  | some (i, s), h => by
    have h : (d.write i s).2 = 0 := h
    show cont (d.write i s).1 = (cont d).set i s
    unfold Dk.write at h ⊢
    split at h
    · rename_i h1; exact absurd h h1
    · rename_i h1
      split at h
      · cases h
      · rename_i h2
        rw [if_neg h1, if_neg h2]
        show Dk.settle (Dk.strike _).1.safe (Dk.strike _).1.waits = _
        rw [Dk.strike_safe, Dk.strike_waits]
        show Dk.settle d.safe (d.waits ++ [((i : Int).toNat, s)]) = _
        rw [Dk.settle_app]; rfl
  | none, h => by
    have h : d.sync.2 = 0 := h
    show cont d.sync.1 = cont d
    unfold Dk.sync at h ⊢
    split at h
    · cases h
    · rename_i h1
      split at h
      · cases h
      · rename_i h2
        rw [if_neg h1, if_neg h2]; rfl
theorem ops_cont : ∀ (l : List Dk.Op) {d : Dk}, (d.ops l).2 = 0 → cont (d.ops l).1 = l.foldl opC (cont d)
  | [], _, _ => rfl
  | o :: l, d, h => by
    have h0 : (d.op o).2 = 0 := by
      rcases Decidable.em ((d.op o).2 = 0) with h1 | h1
      · exact h1
      · rw [Dk.ops_cons1 h1] at h; exact h
    rw [Dk.ops_cons0 h0] at h ⊢
    rw [ops_cont l h, op_cont h0]; rfl
theorem opC_len (C : List Str) : ∀ o, (opC C o).length = C.length
  | some (i, s) => List.length_set
  | none => rfl
theorem foldC_len : ∀ (l : List Dk.Op) (C : List Str), (l.foldl opC C).length = C.length
  | [], _ => rfl
  | o :: l, C => by rw [List.foldl_cons, foldC_len l, opC_len]
theorem rangeC (b : Nat) (F : Nat → Str) (C : List Str) (x : Nat) : ∀ m, b + m ≤ C.length → (((List.range m).map fun i => (some (b + i, F i) : Dk.Op)).foldl opC C).getD x [] = if b ≤ x ∧ x < b + m then F (x - b) else C.getD x []
  | 0, _ => by rw [if_neg (by omega)]; rfl
  | m + 1, h => by
    rw [List.range_succ, List.map_append, List.foldl_append]
    show (List.set _ (b + m) (F m)).getD x [] = _
    rw [getD_setL, rangeC b F C x m (by omega), foldC_len]
    by_cases h1 : b + m = x
    · rw [if_pos ⟨h1, by omega⟩, if_pos (by omega), show x - b = m by omega]
    · rw [if_neg (by omega)]
      by_cases h2 : b ≤ x ∧ x < b + m
      · rw [if_pos h2, if_pos (by omega)]
      · rw [if_neg h2, if_neg (by omega)]
/-- The contents behind the first sync of a record. -/
def half (C : List Str) (a : Nat) (p : Str) : List Str := (wrs a p ++ if a + secN p.length < C.length then [some (a + secN p.length, zs)] else []).foldl opC C
theorem half_len (C : List Str) (a : Nat) (p : Str) : (half C a p).length = C.length := foldC_len _ _
theorem half_get {C : List Str} {a : Nat} {p : Str} (h : a + secN p.length ≤ C.length) (x : Nat) :
    (half C a p).getD x [] = if a + 1 ≤ x ∧ x < a + secN p.length then (laidV p).getD (x - a) [] else if x = a + secN p.length ∧ x < C.length then zs else C.getD x [] := by
  have h1 := secN_pos p.length
  have hw := rangeC (a + 1) (fun i => ((laidV p).drop 1).getD i []) C x (secN p.length - 1) (by omega)
  have hd : ∀ i, ((laidV p).drop 1).getD i [] = (laidV p).getD (i + 1) [] := fun i => by
    rw [List.getD_eq_getElem?_getD, List.getElem?_drop, List.getD_eq_getElem?_getD, Nat.add_comm]
  simp only [hd] at hw
  have hw2 : ((wrs a p).foldl opC C).getD x [] = if a + 1 ≤ x ∧ x < a + secN p.length then (laidV p).getD (x - a) [] else C.getD x [] := by
    unfold wrs
    simp only [hd]
    rw [hw]
    by_cases h2 : a + 1 ≤ x ∧ x < a + secN p.length
    · rw [if_pos (by omega), if_pos h2, show x - (a + 1) + 1 = x - a by omega]
    · rw [if_neg (by omega), if_neg h2]
  unfold half
  rw [List.foldl_append]
  split
  · show (List.set _ _ zs).getD x [] = _
    rw [getD_setL, hw2, foldC_len]
    by_cases h2 : a + secN p.length = x
    · rw [if_pos ⟨h2, by omega⟩, if_neg (by omega), if_pos (by omega)]
    · rw [if_neg (by omega), if_neg (c := x = a + secN p.length ∧ x < C.length) (by omega)]
  · rw [List.foldl_nil, hw2, if_neg (c := x = a + secN p.length ∧ x < C.length) (by omega)]
theorem zs_mark : zs.getD 63 0 ≠ 1 := by decide
def fullC (C : List Str) (a : Nat) (p : Str) : List Str := (half C a p).set a ((laidV p).getD 0 [])
theorem full_len (C : List Str) (a : Nat) (p : Str) : (fullC C a p).length = C.length := by unfold fullC; rw [List.length_set, half_len]
theorem full_get {C : List Str} {a : Nat} {p : Str} (h : a + secN p.length ≤ C.length) (x : Nat) :
    (fullC C a p).getD x [] = if a ≤ x ∧ x < a + secN p.length then (laidV p).getD (x - a) [] else if x = a + secN p.length ∧ x < C.length then zs else C.getD x [] := by
  have h1 := secN_pos p.length
  unfold fullC
  rw [getD_setL, half_get h, half_len]
  by_cases h2 : a = x
  · rw [if_pos ⟨h2, by omega⟩, if_pos (by omega), show x - a = 0 by omega]
  · rw [if_neg (by omega)]
    by_cases h3 : a + 1 ≤ x ∧ x < a + secN p.length
    · rw [if_pos h3, if_pos (by omega)]
    · rw [if_neg h3, if_neg (c := a ≤ x ∧ x < a + secN p.length) (by omega)]
theorem full_laid {C : List Str} {a : Nat} {p : Str} (h : a + secN p.length ≤ C.length) : laidAt (fullC C a p) a p :=
  ⟨by rw [full_len]; exact h, fun j hj => by rw [full_get h, if_pos (by omega), show a + j - a = j by omega]⟩
theorem full_end {C : List Str} {a : Nat} {p : Str} (h : a + secN p.length ≤ C.length) : endC (fullC C a p) (a + secN p.length) := fun hx => by
  rw [full_len] at hx
  rw [full_get h, if_neg (by omega), if_pos ⟨rfl, hx⟩]; exact zs_mark
theorem full_before {C : List Str} {a : Nat} {p : Str} (h : a + secN p.length ≤ C.length) {i : Nat} (hi : i < a) : (fullC C a p).getD i [] = C.getD i [] := by
  rw [full_get h, if_neg (by omega), if_neg (by omega)]
theorem kops_split (n a : Nat) (p : Str) : kops n a p = (wrs a p ++ if a + secN p.length < n then [some (a + secN p.length, zs)] else []) ++ [none, some (a, (laidV p).getD 0 []), none] := by
  unfold kops; rw [List.append_assoc]
theorem keep_cont {d : Dk} {a : Nat} {p : Str} (h : (keepV d a p).2 = 0) : cont (keepV d a p).1 = fullC (cont d) a p := by
  have h1 := keepV_full h
  unfold keepV at h ⊢
  rw [if_neg (by omega)] at h ⊢
  rw [ops_cont _ h, kops_split, List.foldl_append, ← cont_len]
  rfl
theorem Holds.put {S : DB} {o : Nat} (h : Holds (cont S.1) o S.2.logs S.2.at_) {e : En} (hc : chg S.2.logs e) (h0 : (putV S e).2 = 0) : Holds (cont (putV S e).1.1) o (putV S e).1.2.logs (putV S e).1.2.at_ := by
  have hk : (keepV S.1 S.2.at_ (payE e)).2 = 0 := by
    rcases Decidable.em ((keepV S.1 S.2.at_ (payE e)).2 = 0) with h1 | h1
    · exact h1
    · unfold putV at h0; rw [if_neg h1] at h0; exact h0
  have hf : S.2.at_ + secN (payE e).length ≤ (cont S.1).length := by rw [cont_len]; exact keepV_full hk
  rw [putV_full hk]
  show Holds (cont (keepV S.1 S.2.at_ (payE e)).1) o (chgd S.2.logs e) (S.2.at_ + secN (payE e).length)
  rw [keep_cont hk]
  exact h.snoc (full_len _ _ _) (fun i hi => full_before hf hi) (full_laid hf) hc (full_end hf)
theorem new0_holds {n o : Nat} (hn : 1 ≤ n) (ho : 1 ≤ o ∧ o ≤ 8) : Holds (cont (new0 n o).1) o (new0 n o).2.logs (new0 n o).2.at_ := by
  have hk := (new0_keep (o := o) hn).1
  have hf : 0 + secN (payB o).length ≤ (cont (Dk.mk0 n)).length := by rw [cont_len]; exact keepV_full hk
  show Holds (cont (keepV (Dk.mk0 n) 0 (payB o)).1) o (List.replicate o []) 1
  rw [keep_cont hk]
  have e1 := full_end hf
  rw [show 0 + secN (payB o).length = 1 from by rw [payB_len']; rfl] at e1
  exact ⟨ho, full_laid hf, .nil _ _, e1⟩
end Go.Proofs.Ytlbmlimaobkhpaa
/- Books: what is left on the disk when the power goes off. No program in sight. -/
namespace Go.Proofs.Ytlbmlimaobkhpaa
set_option linter.unusedSimpArgs false
set_option linter.unusedVariables false
theorem tear_get {x : Nat} : ∀ (l : List ((Nat × Str) × UInt8)) (s : List Str), (∀ w ∈ l, w.1.1 ≠ x) → (Dk.tear s l).getD x [] = s.getD x []
  | [], _, _ => rfl
  | [(w, k)], s, h => by
    have := h (w, k) (List.Mem.head _)
    show (List.set s w.1 _).getD x [] = _
    rw [getD_setL, if_neg fun hx => this hx.1]
  | (w, k) :: y :: r, s, h => by
    have := h (w, k) (List.Mem.head _)
    show (Dk.tear (s.set w.1 w.2) (y :: r)).getD x [] = _
    rw [tear_get (y :: r) _ fun v hv => h v (List.mem_cons_of_mem _ hv), getD_setL, if_neg fun hx => this hx.1]
theorem tear_lenC : ∀ (l : List ((Nat × Str) × UInt8)) (s : List Str), (Dk.tear s l).length = s.length
  | [], _ => rfl
  | [(w, k)], s => by show (List.set s w.1 _).length = _; rw [List.length_set]
  | (w, k) :: y :: r, s => by
    show (Dk.tear (s.set w.1 w.2) (y :: r)).length = _
    rw [tear_lenC (y :: r), List.length_set]
theorem kept_mem {ws : List (Nat × Str)} {keep : Str} {w : (Nat × Str) × UInt8} (h : w ∈ Dk.kept ws keep) : w.1 ∈ ws := by
  unfold Dk.kept at h
  have h1 := (List.mem_filter.1 h).1
  exact (List.of_mem_zip (a := w.1) (b := w.2) h1).1
theorem restart_cont (d : Dk) (keep : Str) : cont (d.restart keep) = Dk.tear d.safe (Dk.kept d.waits keep) := rfl
/-- Nothing is under way but behind a sector. -/
structure Far (C : List Str) (a : Nat) (d : Dk) : Prop where
  safe : d.safe = C
  waits : ∀ w ∈ d.waits, a < w.1
theorem Far.write {C : List Str} {a : Nat} {d : Dk} (h : Far C a d) {i : Nat} (hi : a < i) (s : Str) : Far C a (d.write i s).1 := by
  unfold Dk.write
  split
  · exact h
  · split
    · exact h
    · refine ⟨?_, ?_⟩
      · show (Dk.strike _).1.safe = _; rw [Dk.strike_safe]; exact h.safe
      · show ∀ w ∈ (Dk.strike _).1.waits, _
        rw [Dk.strike_waits]
        intro w hw
        rcases List.mem_append.1 hw with h1 | h1
        · exact h.waits w h1
        · rw [List.mem_singleton.1 h1]; exact hi
theorem Far.ops {C : List Str} {a : Nat} : ∀ (l : List Dk.Op) {d : Dk}, Far C a d → (∀ o ∈ l, ∃ i s, o = some (i, s) ∧ a < i) → Far C a (d.ops l).1
  | [], _, h, _ => h
  | o :: l, d, h, hl => by
    obtain ⟨i, s, rfl, hi⟩ := hl _ (List.Mem.head _)
    have h1 := h.write hi s
    show Far C a (if (d.write i s).2 = 0 then (d.write i s).1.ops l else d.write i s).1
    split
    · exact Far.ops l h1 fun o ho => hl o (List.mem_cons_of_mem _ ho)
    · exact h1
theorem sync_fail {d : Dk} (h : d.sync.2 ≠ 0) : d.sync.1.safe = d.safe ∧ d.sync.1.waits = d.waits := by
  unfold Dk.sync at h ⊢
  split
  · exact ⟨rfl, rfl⟩
  · rename_i h1
    rw [if_neg h1] at h
    split
    · exact ⟨Dk.strike_safe d, Dk.strike_waits d⟩
    · rename_i h2
      rw [if_neg h2] at h; exact absurd rfl h
theorem sync_done {d : Dk} (h : d.sync.2 = 0) : d.sync.1.safe = cont d ∧ d.sync.1.waits = [] := by
  unfold Dk.sync at h ⊢
  split
  · rename_i h1; rw [if_pos h1] at h; cases h
  · rename_i h1
    rw [if_neg h1] at h
    split
    · rename_i h2; rw [if_pos h2] at h; cases h
    · exact ⟨rfl, rfl⟩
/-- At most one write is under way. -/
structure Near (C : List Str) (a : Nat) (s : Str) (d : Dk) : Prop where
  safe : d.safe = C
  waits : d.waits = [] ∨ d.waits = [(a, s)]
theorem Near.write {C : List Str} {d : Dk} (h : d.safe = C) (hw : d.waits = []) (i : Nat) (s : Str) : Near C i s (d.write i s).1 := by
  unfold Dk.write
  split
  · exact ⟨h, .inl hw⟩
  · split
    · exact ⟨h, .inl hw⟩
    · refine ⟨?_, .inr ?_⟩
      · show (Dk.strike _).1.safe = _; rw [Dk.strike_safe]; exact h
      · show (Dk.strike _).1.waits = _
        rw [Dk.strike_waits]
        show d.waits ++ [((i : Int).toNat, s)] = _
        rw [hw]; rfl
theorem wrs_some {C : List Str} {a : Nat} {p : Str} : ∀ o ∈ wrs a p ++ (if a + secN p.length < C.length then [some (a + secN p.length, zs)] else []), ∃ i s, o = some (i, s) ∧ a < i := by
  have h1 := secN_pos p.length
  intro o ho
  rcases List.mem_append.1 ho with h2 | h2
  · unfold wrs at h2
    obtain ⟨i, _, rfl⟩ := List.mem_map.1 h2
    exact ⟨_, _, rfl, by omega⟩
  · split at h2
    · rw [List.mem_singleton.1 h2]; exact ⟨_, _, rfl, by omega⟩
    · cases h2
/-- A record that was not written to its end leaves what was, or all of it. -/
theorem keep_crash {d : Dk} {a : Nat} {p : Str} (hw : d.waits = []) (hs : ∀ s ∈ d.safe, s.length = 64) (he : endC d.safe a) (h : (keepV d a p).2 ≠ 0) :
    Far d.safe a (keepV d a p).1 ∨ a + secN p.length ≤ d.safe.length ∧ Near (half d.safe a p) a ((laidV p).getD 0 []) (keepV d a p).1 := by
  have hf0 : Far d.safe a d := ⟨rfl, fun w hx => by rw [hw] at hx; cases hx⟩
  have hc0 : cont d = d.safe := by unfold cont; rw [hw]; rfl
  unfold keepV at h ⊢
  split
  · exact .inl hf0
  · rename_i h1
    rw [if_neg h1] at h
    rw [kops_split, Dk.ops_app] at h ⊢
    have hA := Far.ops _ hf0 (wrs_some (C := d.safe) (a := a) (p := p))
    by_cases hA0 : (d.ops (wrs a p ++ if a + secN p.length < d.safe.length then [some (a + secN p.length, zs)] else [])).2 = 0
    · rw [if_pos hA0] at h ⊢
      have hA1 := ops_cont _ hA0
      rw [hc0] at hA1
      generalize (d.ops (wrs a p ++ if a + secN p.length < d.safe.length then [some (a + secN p.length, zs)] else [])).1 = d1 at *
      have hseq := Dk.seq3 d1 a ((laidV p).getD 0 [])
      rw [hseq] at h ⊢
      by_cases h2 : d1.sync.2 = 0
      · rw [if_pos h2] at h ⊢
        obtain ⟨e1, e2⟩ := sync_done h2
        have hN := Near.write (C := half d.safe a p) (by rw [e1, hA1]; rfl) e2 a ((laidV p).getD 0 [])
        right
        refine ⟨by omega, ?_⟩
        by_cases h3 : (d1.sync.1.write a ((laidV p).getD 0 [])).2 = 0
        · rw [if_pos h3] at h ⊢
          obtain ⟨e3, e4⟩ := sync_fail h
          exact ⟨by rw [e3]; exact hN.safe, by rw [e4]; exact hN.waits⟩
        · rw [if_neg h3]; exact hN
      · rw [if_neg h2]
        obtain ⟨e1, e2⟩ := sync_fail h2
        exact .inl ⟨by rw [e1]; exact hA.safe, by rw [e2]; exact hA.waits⟩
    · rw [if_neg hA0]; exact .inl hA
theorem Far.left {C : List Str} {a : Nat} {d : Dk} (h : Far C a d) (keep : Str) {i : Nat} (hi : i ≤ a) : (cont (d.restart keep)).getD i [] = C.getD i [] := by
  rw [restart_cont, tear_get, h.safe]
  intro w hw
  have := h.waits _ (kept_mem hw)
  omega
theorem restart_len (d : Dk) (keep : Str) : (cont (d.restart keep)).length = d.safe.length := by rw [restart_cont, tear_lenC]
theorem getD_mark {s t : Str} {m : Nat} (hs : s.length = 64) (ht : t.length = 64) (hm : m < 64) : (s.take m ++ t.drop m).getD 63 0 = t.getD 63 0 := by
  rw [List.getD_eq_getElem?_getD, List.getElem?_append_right (by rw [List.length_take]; omega), List.getElem?_drop, List.length_take, List.getD_eq_getElem?_getD]
  congr 2
  omega
theorem Near.left {C : List Str} {a : Nat} {s : Str} {d : Dk} (h : Near C a s d) (ha : a < C.length) (hs : s.length = 64) (hc : (C.getD a []).length = 64) (keep : Str) :
    cont (d.restart keep) = C.set a s ∨ (∀ i < a, (cont (d.restart keep)).getD i [] = C.getD i []) ∧ ((C.getD a []).getD 63 0 ≠ 1 → ((cont (d.restart keep)).getD a []).getD 63 0 ≠ 1) := by
  rw [restart_cont, h.safe]
  have h0 : Dk.tear C [] = C := rfl
  rcases h.waits with h1 | h1
  · rw [h1, show Dk.kept [] keep = [] from rfl, h0]
    exact .inr ⟨fun _ _ => rfl, id⟩
  · rw [h1]
    cases keep with
    | nil =>
      rw [show Dk.kept [(a, s)] [] = [] from rfl, h0]
      exact .inr ⟨fun _ _ => rfl, id⟩
    | cons k ks =>
      by_cases hk : k = 0
      · subst hk
        rw [show Dk.kept [(a, s)] (0 :: ks) = [] from by unfold Dk.kept; simp, h0]
        exact .inr ⟨fun _ _ => rfl, id⟩
      · rw [show Dk.kept [(a, s)] (k :: ks) = [((a, s), k)] from by unfold Dk.kept; simp [hk]]
        show C.set a (s.take (min k.toNat 64) ++ (C.getD a []).drop (min k.toNat 64)) = _ ∨ (∀ i < a, (C.set a (s.take (min k.toNat 64) ++ (C.getD a []).drop (min k.toNat 64))).getD i [] = _) ∧ (_ → ((C.set a (s.take (min k.toNat 64) ++ (C.getD a []).drop (min k.toNat 64))).getD a []).getD 63 0 ≠ 1)
        by_cases hm : 64 ≤ k.toNat
        · left
          rw [Nat.min_eq_right hm, List.take_of_length_le (by omega), List.drop_of_length_le (by omega), List.append_nil]
        · right
          refine ⟨fun i hi => by rw [getD_setL, if_neg (by omega)], fun hn => ?_⟩
          rw [getD_setL, if_pos ⟨rfl, ha⟩, getD_mark hs hc (by omega)]
          exact hn
theorem safe_len {d : Dk} {B : Nat} (h : d.okB B) {i : Nat} (hi : i < d.safe.length) : (d.safe.getD i []).length = 64 := h.safe _ (getD_mem' hi)
/-- When a write did not succeed, the disk has, behind a restart, what it had, or all of the record. -/
theorem Holds.crash {S : DB} {o B : Nat} (hk : okS B S) (h : Holds (cont S.1) o S.2.logs S.2.at_) (hw : S.1.waits = []) {e : En} (hc : chg S.2.logs e) (h0 : (putV S e).2 ≠ 0) (keep : Str) :
    Holds (cont ((putV S e).1.1.restart keep)) o S.2.logs S.2.at_ ∨ Holds (cont ((putV S e).1.1.restart keep)) o (chgd S.2.logs e) (S.2.at_ + secN (payE e).length) := by
  have hc0 : cont S.1 = S.1.safe := by unfold cont; rw [hw]; rfl
  rw [hc0] at h
  have hkv : (keepV S.1 S.2.at_ (payE e)).2 ≠ 0 := by
    intro h1
    rw [putV_full h1] at h0
    exact h0 rfl
  have hp : (putV S e).1.1 = (keepV S.1 S.2.at_ (payE e)).1 := by unfold putV; rw [if_neg hkv]
  rw [hp]
  have hl2 := keepV_len S.1 S.2.at_ (payE e)
  rcases keep_crash hw hk.d.safe h.stop hkv with hF | ⟨hle, hN⟩
  · left
    refine h.congr (by rw [restart_len, hl2]) (fun i hi => hF.left keep (Nat.le_of_lt hi)) fun hx => ?_
    rw [hF.left keep (Nat.le_refl _)]
    rw [restart_len, hl2] at hx
    exact h.stop hx
  · have h1 := secN_pos (payE e).length
    have hg := half_get hle S.2.at_
    rw [if_neg (by omega), if_neg (by omega)] at hg
    have h64 := safe_len hk.d (i := S.2.at_) (by omega)
    have hst := h.stop (by omega)
    have hlaid : ((laidV (payE e)).getD 0 []).length = 64 := laidV_mem _ (getD_mem' (by rw [laidV_len]; omega))
    rcases hN.left (by rw [half_len]; omega) hlaid (by rw [hg]; exact h64) keep with h2 | ⟨h2, h3⟩
    · right
      have e1 : cont ((keepV S.1 S.2.at_ (payE e)).1.restart keep) = fullC S.1.safe S.2.at_ (payE e) := h2
      rw [e1]
      exact h.snoc (full_len _ _ _) (fun i hi => full_before hle hi) (full_laid hle) hc (full_end hle)
    · left
      refine h.congr (by rw [restart_len, hl2]) (fun i hi => ?_) fun hx => ?_
      · rw [h2 i hi, half_get hle, if_neg (by omega), if_neg (by omega)]
      · exact h3 (by rw [hg]; exact hst)
theorem keep_waits {d : Dk} {a : Nat} {p : Str} (h : (keepV d a p).2 = 0) : (keepV d a p).1.waits = [] := by
  have h1 := keepV_full h
  unfold keepV at h ⊢
  rw [if_neg (by omega)] at h ⊢
  rw [kops_split, Dk.ops_app] at h ⊢
  generalize d.ops (wrs a p ++ if a + secN p.length < d.safe.length then [some (a + secN p.length, zs)] else []) = X at *
  by_cases h2 : X.2 = 0
  · rw [if_pos h2] at h ⊢
    rw [Dk.seq3] at h ⊢
    by_cases h3 : X.1.sync.2 = 0
    · rw [if_pos h3] at h ⊢
      by_cases h4 : (X.1.sync.1.write a ((laidV p).getD 0 [])).2 = 0
      · rw [if_pos h4] at h ⊢
        exact (sync_done h).2
      · rw [if_neg h4] at h; exact absurd h h4
    · rw [if_neg h3] at h; exact absurd h h3
  · rw [if_neg h2] at h; exact absurd h h2
theorem put_waits {S : DB} {e : En} (h : (putV S e).2 = 0) : (putV S e).1.1.waits = [] := by
  have hk : (keepV S.1 S.2.at_ (payE e)).2 = 0 := by
    rcases Decidable.em ((keepV S.1 S.2.at_ (payE e)).2 = 0) with h1 | h1
    · exact h1
    · unfold putV at h; rw [if_neg h1] at h; exact h
  rw [putV_full hk]
  exact keep_waits hk
theorem new0_waits {n o : Nat} (hn : 1 ≤ n) : (new0 n o).1.waits = [] := keep_waits (new0_keep hn).1
/-! ### what a message by itself does -/
theorem bst_one {e : En} {p no : Int} : bst [e] p no = if enOk e ∧ e.office = p ∧ e.no = no then some e else none := by
  show bst1 p no none e = _
  unfold bst1; rfl
theorem takeIn_miss {e : En} {p : Nat} (hp : e.office ≠ p) (f no : Nat) (S : DB) (n : Nat) : takeIn [e] p f no S n = ⟨S, n, 0⟩ :=
  takeIn_none (fun k x hx => by rw [bst_one, if_neg (fun h => hp h.2.1)] at hx; cases hx) f no n
theorem takeIn_past {e : En} {p : Nat} : ∀ (f no : Nat) (S : DB) (n : Nat), e.no < no → takeIn [e] p f no S n = ⟨S, n, 0⟩
  | 0, _, _, _, _ => rfl
  | f + 1, no, S, n, h => by
    unfold takeIn
    split
    · rw [bst_one, if_neg (fun h2 => absurd h2.2.2 (by omega))]
      exact takeIn_past f _ S n (by omega)
    · rfl
def one1 (S : DB) (e : En) (n : Nat) : Tk := if chg S.2.logs e then (if (putV S e).2 = 0 then ⟨(putV S e).1, n + 1, 0⟩ else ⟨(putV S e).1, 0, (putV S e).2⟩) else ⟨S, n, 0⟩
theorem takeIn_hit {e : En} {p : Nat} (he : enOk e) (hp : e.office = p) : ∀ (f no : Nat) (S : DB) (n : Nat), (no : Int) ≤ e.no → e.no < no + f → takeIn [e] p f no S n = one1 S e n
  | 0, no, S, n, h1, h2 => by omega
  | f + 1, no, S, n, h1, h2 => by
    unfold takeIn
    rw [bst_one]
    have hn0 := he.2.2.1
    split
    · by_cases h3 : e.no = no
      · rw [if_pos ⟨he, hp, h3⟩]
        simp only
        unfold one1
        split
        · split
          · exact takeIn_past f _ _ _ (by omega)
          · rfl
        · exact takeIn_past f _ _ _ (by omega)
      · rw [if_neg (fun h => h3 h.2.2)]
        simp only
        exact takeIn_hit he hp f (no + 1) S n (by omega) (by omega)
    · rename_i h3
      unfold one1
      rw [if_neg]
      rintro ⟨_, _, h4⟩
      have : e.office.toNat = p := by omega
      rw [this] at h4
      rcases h4 with h4 | ⟨h4, _⟩ <;> omega
theorem takeO_miss {e : En} : ∀ (f p : Nat) (S : DB) (n : Nat), (∀ q : Nat, p ≤ q → q < p + f → e.office ≠ q) → takeO [e] f p S n = ⟨S, n, 0⟩
  | 0, _, _, _, _ => rfl
  | f + 1, p, S, n, h => by
    unfold takeO
    rw [takeIn_miss (h p (Nat.le_refl _) (by omega))]
    exact takeO_miss f (p + 1) S n fun q h1 h2 => h q (by omega) (by omega)
theorem takeO_hit {e : En} (he : enOk e) : ∀ (f p : Nat) (S : DB) (n : Nat), (p : Int) ≤ e.office → e.office < p + f → takeO [e] f p S n = one1 S e n
  | 0, p, S, n, h1, h2 => by omega
  | f + 1, p, S, n, h1, h2 => by
    unfold takeO
    by_cases h3 : e.office = p
    · rw [takeIn_hit he h3 66 0 S n he.2.2.1 (by have := he.2.2.2.1; omega)]
      split
      · rename_i h4
        rw [takeO_miss f (p + 1) _ _ fun q h5 h6 => by omega]
        generalize one1 S e n = T at *
        obtain ⟨T, m, x⟩ := T
        simp only at h4
        rw [h4]
      · rfl
    · rw [takeIn_miss h3]
      exact takeO_hit he f (p + 1) S n (by omega) (by omega)
/-- Taking one message. -/
theorem takeV_one {S : DB} (hu : ¬ downV S) (e : En) : takeV S [e] = one1 S e 0 := by
  rw [show takeV S [e] = takeO [e] S.2.logs.length 0 S 0 from if_neg hu]
  by_cases he : enOk e
  · have h0 := he.1
    by_cases hp : e.office < S.2.logs.length
    · exact takeO_hit he _ 0 S 0 he.1 (by omega)
    · rw [takeO_miss _ 0 S 0 fun q _ hq => by omega]
      unfold one1
      rw [if_neg]
      rintro ⟨_, h1, _⟩
      omega
  · rw [takeO_none (l := [e]) (S := S) (fun q _ k x hx => by rw [bst_one, if_neg (fun h => he h.1)] at hx; cases hx) _ 0 0 (by omega)]
    unfold one1
    rw [if_neg (fun h => he h.1)]
/-! ### how it fails -/
theorem op_in {d : Dk} : ∀ {o : Dk.Op}, Dk.opIn d.safe.length o → (d.op o).2 = 0 ∨ (d.op o).2 = 93
  | some (i, s), h => by
    show (d.write i s).2 = 0 ∨ (d.write i s).2 = 93
    have he : d.err i = 0 ∨ d.err i = 93 := by
      unfold Dk.err
      split
      · exact .inr rfl
      · rw [if_pos (by have := h.1; omega)]; exact .inl rfl
    unfold Dk.write
    split
    · rename_i h1
      exact .inr (he.resolve_left h1)
    · rw [if_neg (by rw [h.2]; exact fun h => h rfl)]
      show (if _ then (93 : Int) else 0) = 0 ∨ (if _ then (93 : Int) else 0) = 93
      split
      · exact .inr rfl
      · exact .inl rfl
  | none, _ => by
    show d.sync.2 = 0 ∨ d.sync.2 = 93
    unfold Dk.sync
    split
    · exact .inr rfl
    · split
      · exact .inr rfl
      · exact .inl rfl
theorem ops_in : ∀ (l : List Dk.Op) {d : Dk}, (∀ o ∈ l, Dk.opIn d.safe.length o) → (d.ops l).2 = 0 ∨ (d.ops l).2 = 93
  | [], _, _ => .inl rfl
  | o :: l, d, h => by
    rcases op_in (h o (List.Mem.head _)) with h1 | h1
    · rw [Dk.ops_cons0 h1]
      exact ops_in l fun x hx => by rw [Dk.op_len]; exact h x (List.mem_cons_of_mem _ hx)
    · rw [Dk.ops_cons1 (by rw [h1]; decide)]; exact .inr h1
theorem keep_in (d : Dk) (a : Nat) (p : Str) : (keepV d a p).2 = 0 ∨ (keepV d a p).2 = 93 ∨ (keepV d a p).2 = 94 ∧ (keepV d a p).1 = d := by
  unfold keepV
  split
  · exact .inr (.inr ⟨rfl, rfl⟩)
  · exact (ops_in _ (kops_in (by omega))).imp id .inl
theorem put_in (S : DB) (e : En) : (putV S e).2 = 0 ∨ ((putV S e).2 = 93 ∨ (putV S e).2 = 94 ∧ (putV S e).1.1 = S.1) ∧ (putV S e).1.2 = S.2 := by
  unfold putV
  split
  · exact .inl rfl
  · rename_i h
    exact .inr ⟨((keep_in S.1 S.2.at_ (payE e)).resolve_left h), rfl⟩
end Go.Proofs.Ytlbmlimaobkhpaa
/- Books with much room, to which few messages are given. No program in sight. -/
namespace Go.Proofs.Ytlbmlimaobkhpaa
set_option linter.unusedSimpArgs false
set_option linter.unusedVariables false
/-! ### how many messages -/
def total (L : List (List En)) : Nat := L.flatten.length
theorem total_set : ∀ (L : List (List En)) (i : Nat) (x : List En), i < L.length → total (L.set i x) + (L.getD i []).length = total L + x.length
  | q :: L, 0, x, _ => by simp [total]; omega
  | q :: L, i + 1, x, h => by
    have := total_set L i x (by simpa using h)
    simp only [total, List.set_cons_succ, List.flatten_cons, List.length_append, List.getD_cons_succ] at this ⊢
    omega
theorem total_chgd {L : List (List En)} {e : En} (h : chg L e) : total (chgd L e) ≤ total L + 1 := by
  have h1 := total_set L e.office.toNat (put1 (L.getD e.office.toNat []) e) h.2.1
  have h2 : (put1 (L.getD e.office.toNat []) e).length ≤ (L.getD e.office.toNat []).length + 1 := by
    unfold put1; split <;> simp
  unfold chgd
  omega
theorem putV_total {S : DB} {e : En} (h : chg S.2.logs e) : total (putV S e).1.2.logs ≤ total S.2.logs + 1 := by
  unfold putV
  split
  · exact total_chgd h
  · exact Nat.le_succ _
theorem takeIn_total (l : List En) (p : Nat) : ∀ f no S n, total (takeIn l p f no S n).S.2.logs + cnt l (p + 1) 0 ≤ total S.2.logs + cnt l p no
  | 0, no, S, n => by have := cnt_office l p no; show total S.2.logs + _ ≤ _; omega
  | f + 1, no, S, n => by
    have h1 := cnt_next l p no
    have h2 := cnt_office l p no
    unfold takeIn
    split
    · split
      · rename_i e he
        have h3 := cnt_bst he
        split
        · rename_i hc
          have h4 := putV_total hc
          split
          · have := takeIn_total l p f (no + 1) (putV S e).1 (n + 1); omega
          · show total (putV S e).1.2.logs + _ ≤ _; have := cnt_office l p (no + 1); omega
        · have := takeIn_total l p f (no + 1) S n; omega
      · have := takeIn_total l p f (no + 1) S n; omega
    · show total S.2.logs + _ ≤ _; omega
theorem takeO_total (l : List En) : ∀ f p S n, total (takeO l f p S n).S.2.logs ≤ total S.2.logs + cnt l p 0
  | 0, p, S, n => Nat.le_add_right _ _
  | f + 1, p, S, n => by
    have h1 := takeIn_total l p 66 0 S n
    unfold takeO
    split
    · have := takeO_total l f (p + 1) (takeIn l p 66 0 S n).S (takeIn l p 66 0 S n).n; omega
    · omega
theorem takeV_total (S : DB) (l : List En) : total (takeV S l).S.2.logs ≤ total S.2.logs + l.length := by
  unfold takeV
  split
  · exact Nat.le_add_right _ _
  · have h1 := takeO_total l S.2.logs.length 0 S 0
    have h2 := cnt_le l 0 0
    omega
theorem total_new (o : Nat) : total (List.replicate o []) = 0 := by
  unfold total
  induction o with
  | zero => rfl
  | succ o ih => rw [List.replicate_succ, List.flatten_cons, List.length_append, ih]; rfl
/-- A book with much room, to which few messages were given. -/
structure Up (k : Nat) (S : DB) : Prop where
  ok : okS (20 + 10560 * k) S
  fine : fine S
  len : S.1.safe.length = 4096
  at_ : S.2.at_ ≤ 1 + 17 * k
  total : total S.2.logs ≤ k
theorem Up.new {o : Nat} (ho : 1 ≤ o ∧ o ≤ 8) : Up 0 (new0 4096 o) := ⟨new0_ok ⟨by decide, by decide⟩ ho.2, new0_fine (by decide), new0_len _ _, Nat.le_refl _, Nat.le_of_eq (total_new o)⟩
theorem Up.take {k : Nat} {S : DB} (h : Up k S) {l : List En} {m : Nat} (hl : l.length ≤ m) (h1 : 1 ≤ m) (hr : 1 + 17 * (k + m) ≤ 4096) : ∃ T n, takeV S l = ⟨T, n, 0⟩ ∧ Up (k + m) T ∧ Came l S.2.logs T.2.logs ∧ ∀ p < S.2.logs.length, dn l T.2.logs p := by
  have h2 := h.len
  have h3 := h.at_
  have h4 := h.total
  obtain ⟨e1, e2, e3⟩ := takeV_fine h.fine (l := l) (by omega)
  have e4 := takeV_ok h.ok l
  have e5 := takeV_total S l
  have e6 := takeV_came S l
  have e7 := takeV_done h.ok h.fine e1
  obtain ⟨T, n, x, hT⟩ : ∃ T n x, takeV S l = ⟨T, n, x⟩ := ⟨_, _, _, rfl⟩
  rw [hT] at e1 e2 e3 e4 e5 e6 e7
  simp only at e1 e2 e3 e4 e5 e6 e7
  subst e1
  obtain ⟨e8, e9⟩ := e3
  exact ⟨T, n, hT, ⟨e4.mono (by omega), e2, by omega, by omega, by omega⟩, e6, e7⟩
theorem wfL.mem {L : List (List En)} (h : wfL L) {p : Nat} (hp : p < L.length) {e : En} (he : e ∈ L.getD p []) : enOk e := by
  obtain ⟨i, hi, rfl⟩ := List.getElem_of_mem he
  have := (h.en p hp i hi).1
  rwa [List.getD_eq_getElem?_getD, List.getElem?_eq_getElem hi] at this
end Go.Proofs.Ytlbmlimaobkhpaa
