/- Books: the plain laws. -/
import Derived.Test.YtlbmlimaobkhpaaRf
import Derived.Test.YtlbmlimaobkhpaaOa
set_option linter.unusedVariables false
set_option linter.unusedSimpArgs false
set_option linter.unusedSectionVars false
/- Books on disks: taking succeeds where there is room, does not depend on order, and needs no second time. No program in sight. -/
namespace Go.Proofs.Ytlbmlimaobkhpaa
set_option linter.unusedSimpArgs false
set_option linter.unusedVariables false

/-! ### the order of bodies -/
theorem bl_irr : ∀ a : Str, Op.bytesLess a a = false
  | [] => rfl
  | a :: x => by simp [Op.bytesLess, bl_irr x]
theorem bl_tri : ∀ a b : Str, Op.bytesLess a b = false → Op.bytesLess b a = false → a = b
  | [], [], _, _ => rfl
  | [], _ :: _, h, _ => by simp [Op.bytesLess] at h
  | _ :: _, [], _, h => by simp [Op.bytesLess] at h
  | a :: x, b :: y, h1, h2 => by
    simp only [Op.bytesLess, Bool.or_eq_false_iff, decide_eq_false_iff_not, Bool.and_eq_false_iff, beq_eq_false_iff_ne] at h1 h2
    have e : a = b := by
      have := UInt8.not_lt.1 h1.1
      have := UInt8.not_lt.1 h2.1
      exact UInt8.le_antisymm ‹_› ‹_›
    subst e
    rw [bl_tri x y (h1.2.resolve_left fun h => h rfl) (h2.2.resolve_left fun h => h rfl)]
theorem bl_trans : ∀ a b c : Str, Op.bytesLess a b = true → Op.bytesLess b c = true → Op.bytesLess a c = true
  | _, [], _, h, _ => by simp [Op.bytesLess] at h
  | _, _ :: _, [], _, h => by simp [Op.bytesLess] at h
  | [], _ :: _, _ :: _, _, _ => rfl
  | a :: x, b :: y, c :: z, h1, h2 => by
    simp only [Op.bytesLess, Bool.or_eq_true, decide_eq_true_eq, Bool.and_eq_true, beq_iff_eq] at h1 h2 ⊢
    rcases h1 with h1 | ⟨rfl, h1⟩ <;> rcases h2 with h2 | ⟨rfl, h2⟩
    · exact .inl (UInt8.lt_trans h1 h2)
    · exact .inl h1
    · exact .inl h2
    · exact .inr ⟨rfl, bl_trans x y z h1 h2⟩
theorem bl_le_trans {a b c : Str} (h1 : Op.bytesLess b a = false) (h2 : Op.bytesLess c b = false) : Op.bytesLess c a = false := by
  cases h : Op.bytesLess c a with
  | false => rfl
  | true =>
    cases h3 : Op.bytesLess b c with
    | true => rw [bl_trans b c a h3 h] at h1; cases h1
    | false => rw [bl_tri b c h3 h2, h] at h1; cases h1

/-! ### the best message about a number -/
def aim (p no : Int) (x : En) : Prop := enOk x ∧ x.office = p ∧ x.no = no
def IsB (l : List En) (p no : Int) : Option En → Prop
  | none => ∀ x ∈ l, ¬ aim p no x
  | some e => (e ∈ l ∧ aim p no e) ∧ ∀ x ∈ l, aim p no x → Op.bytesLess x.body e.body = false
theorem IsB.snoc {l : List En} {p no : Int} {acc : Option En} (h : IsB l p no acc) (e : En) : IsB (l ++ [e]) p no (bst1 p no acc e) := by
  unfold bst1
  split
  · rename_i he
    cases acc with
    | none =>
      refine ⟨⟨by simp, he⟩, fun x hx ha => ?_⟩
      rcases List.mem_append.1 hx with h1 | h1
      · exact absurd ha (h x h1)
      · rw [List.mem_singleton.1 h1]; exact bl_irr _
    | some o =>
      obtain ⟨⟨h1, h2⟩, h3⟩ := h
      simp only
      split
      · rename_i hb
        refine ⟨⟨by simp, he⟩, fun x hx ha => ?_⟩
        rcases List.mem_append.1 hx with h4 | h4
        · have := h3 x h4 ha
          cases h5 : Op.bytesLess x.body e.body with
          | false => rfl
          | true => rw [bl_trans _ _ _ h5 hb] at this; cases this
        · rw [List.mem_singleton.1 h4]; exact bl_irr _
      · rename_i hb
        refine ⟨⟨List.mem_append_left _ h1, h2⟩, fun x hx ha => ?_⟩
        rcases List.mem_append.1 hx with h4 | h4
        · exact h3 x h4 ha
        · rw [List.mem_singleton.1 h4]
          cases h5 : Op.bytesLess e.body o.body with
          | false => rfl
          | true => exact absurd h5 hb
  · rename_i he
    cases acc with
    | none =>
      intro x hx
      rcases List.mem_append.1 hx with h1 | h1
      · exact h x h1
      · rw [List.mem_singleton.1 h1]; exact he
    | some o =>
      obtain ⟨⟨h1, h2⟩, h3⟩ := h
      refine ⟨⟨List.mem_append_left _ h1, h2⟩, fun x hx ha => ?_⟩
      rcases List.mem_append.1 hx with h4 | h4
      · exact h3 x h4 ha
      · rw [List.mem_singleton.1 h4] at ha; exact absurd ha he
theorem IsB.fold {p no : Int} : ∀ (l s : List En) (acc : Option En), IsB s p no acc → IsB (s ++ l) p no (l.foldl (bst1 p no) acc)
  | [], s, acc, h => by rw [List.append_nil]; exact h
  | x :: l, s, acc, h => by
    have := IsB.fold l (s ++ [x]) _ (h.snoc x)
    rw [List.append_assoc] at this
    exact this
theorem bst_isB (l : List En) (p no : Int) : IsB l p no (bst l p no) := IsB.fold l [] none (fun x hx => by cases hx)
theorem En.same {x y : En} {p no : Int} (hx : aim p no x) (hy : aim p no y) (hb : x.body = y.body) : x = y := by
  obtain ⟨o, n, b⟩ := x
  obtain ⟨o', n', b'⟩ := y
  obtain ⟨_, h1, h2⟩ := hx
  obtain ⟨_, h3, h4⟩ := hy
  simp only at h1 h2 h3 h4 hb
  subst h1 h2 h3 h4 hb
  rfl
theorem IsB.uniq {l l' : List En} {p no : Int} (hm : ∀ x, x ∈ l ↔ x ∈ l') : ∀ {a b : Option En}, IsB l p no a → IsB l' p no b → a = b
  | none, none, _, _ => rfl
  | none, some e, h, h' => absurd h'.1.2 (h e ((hm e).2 h'.1.1))
  | some e, none, h, h' => absurd h.1.2 (h' e ((hm e).1 h.1.1))
  | some e, some o, h, h' => by
    have h1 := h.2 o ((hm o).2 h'.1.1) h'.1.2
    have h2 := h'.2 e ((hm e).1 h.1.1) h.1.2
    rw [En.same h.1.2 h'.1.2 (bl_tri _ _ h2 h1)]
theorem bst_eq {l l' : List En} (hm : ∀ x, x ∈ l ↔ x ∈ l') (p no : Int) : bst l p no = bst l' p no := IsB.uniq hm (bst_isB l p no) (bst_isB l' p no)
theorem bst_mem {l : List En} {p no : Int} {e : En} (h : bst l p no = some e) : e ∈ l := by
  have := bst_isB l p no
  rw [h] at this
  exact this.1.1
theorem takeIn_eq {l l' : List En} {p : Nat} (hb : ∀ no : Int, bst l p no = bst l' p no) : ∀ f no S n, takeIn l p f no S n = takeIn l' p f no S n
  | 0, _, _, _ => rfl
  | f + 1, no, S, n => by
    unfold takeIn
    rw [hb]
    split
    · split
      · rw [takeIn_eq hb f, takeIn_eq hb f]
      · exact takeIn_eq hb f _ _ _
    · rfl
theorem takeO_eq {l l' : List En} (hb : ∀ (p : Nat) (no : Int), bst l p no = bst l' p no) : ∀ f p S n, takeO l f p S n = takeO l' f p S n
  | 0, _, _, _ => rfl
  | f + 1, p, S, n => by
    unfold takeO
    rw [takeIn_eq (hb p)]
    split
    · exact takeO_eq hb f _ _ _
    · rfl
/-- The order of messages, and repetitions, do not matter. -/
theorem takeV_eq {l l' : List En} (hm : ∀ x, x ∈ l ↔ x ∈ l') (S : DB) : takeV S l = takeV S l' := by
  unfold takeV
  rw [takeO_eq fun p no => bst_eq hm p no]

/-! ### a disk whose power stays -/
namespace Dk
structure quiet (d : Dk) : Prop where
  on : d.off = false
  armed : d.armed = 0
theorem quiet.strike {d : Dk} (h : quiet d) : d.strike = (d, false) := if_pos h.armed
theorem quiet.write {d : Dk} (h : quiet d) {i : Nat} {s : Str} (hi : i < d.safe.length) (hs : s.length = 64) : d.write i s = ({ d with waits := d.waits ++ [(i, s)] }, 0) := by
  have e1 : d.err i = 0 := by
    unfold Dk.err
    rw [if_neg (by rw [h.on]; decide), if_pos (by omega)]
  have e2 : (⟨d.safe, d.waits ++ [((i : Int).toNat, s)], d.off, d.armed, d.falls⟩ : Dk).strike = (⟨d.safe, d.waits ++ [((i : Int).toNat, s)], d.off, d.armed, d.falls⟩, false) := if_pos h.armed
  unfold Dk.write
  rw [if_neg (by rw [e1]; exact fun h => h rfl), if_neg (by rw [hs]; exact fun h => h rfl)]
  simp only [e2]
  rfl
theorem quiet.sync {d : Dk} (h : quiet d) : d.sync = ({ d with safe := settle d.safe d.waits, waits := [] }, 0) := by
  unfold Dk.sync
  rw [if_neg (by rw [h.on]; decide), h.strike, if_neg Bool.false_ne_true]
def opIn (n : Nat) : Op → Prop
  | some (i, s) => i < n ∧ s.length = 64
  | none => True
theorem quiet.op {d : Dk} (h : quiet d) : ∀ {o : Op}, opIn d.safe.length o → (d.op o).2 = 0 ∧ quiet (d.op o).1 ∧ (d.op o).1.falls = d.falls
  | some (i, s), ho => by
    show (d.write i s).2 = 0 ∧ quiet (d.write i s).1 ∧ (d.write i s).1.falls = d.falls
    rw [h.write ho.1 ho.2]
    exact ⟨rfl, ⟨h.on, h.armed⟩, rfl⟩
  | none, _ => by
    show d.sync.2 = 0 ∧ quiet d.sync.1 ∧ d.sync.1.falls = d.falls
    rw [h.sync]
    exact ⟨rfl, ⟨h.on, h.armed⟩, rfl⟩
theorem quiet.ops : ∀ (l : List Op) {d : Dk}, quiet d → (∀ o ∈ l, opIn d.safe.length o) → (d.ops l).2 = 0 ∧ quiet (d.ops l).1 ∧ (d.ops l).1.falls = d.falls
  | [], d, h, _ => ⟨rfl, h, rfl⟩
  | o :: l, d, h, ho => by
    obtain ⟨h1, h2, h3⟩ := h.op (ho o (List.Mem.head _))
    rw [ops_cons0 h1]
    obtain ⟨h4, h5, h6⟩ := quiet.ops l h2 fun x hx => by rw [op_len]; exact ho x (List.mem_cons_of_mem _ hx)
    exact ⟨h4, h5, h6.trans h3⟩
theorem quiet.mk0 (n : Nat) : quiet (Dk.mk0 n) := ⟨rfl, rfl⟩
end Dk
theorem zs_len : zs.length = 64 := by simp [zs]
theorem getD_mem' {α : Type} {l : List α} {i : Nat} {d : α} (h : i < l.length) : l.getD i d ∈ l := by
  rw [List.getD_eq_getElem?_getD, List.getElem?_eq_getElem h]; exact List.getElem_mem h
theorem kops_in {n at_ : Nat} {p : Str} (h : at_ + secN p.length ≤ n) : ∀ o ∈ kops n at_ p, Dk.opIn n o := by
  have h1 : 1 ≤ secN p.length := by unfold secN; omega
  have hl := laidV_len p
  intro o ho
  unfold kops at ho
  rcases List.mem_append.1 ho with h2 | h2
  · unfold wrs at h2
    obtain ⟨i, hi, rfl⟩ := List.mem_map.1 h2
    rw [List.mem_range] at hi
    refine ⟨by omega, ?_⟩
    exact laidV_mem _ (List.mem_of_mem_drop (getD_mem' (by rw [List.length_drop]; omega)))
  · rcases List.mem_append.1 h2 with h3 | h3
    · split at h3
      · rw [List.mem_singleton.1 h3]; exact ⟨by omega, zs_len⟩
      · cases h3
    · simp only [List.mem_cons, List.not_mem_nil, or_false] at h3
      rcases h3 with rfl | rfl | rfl
      · trivial
      · exact ⟨by omega, laidV_mem _ (getD_mem' (by omega))⟩
      · trivial
theorem keep_fine {d : Dk} (h : d.quiet) {at_ : Nat} {p : Str} (hr : at_ + secN p.length ≤ d.safe.length) : (keepV d at_ p).2 = 0 ∧ (keepV d at_ p).1.quiet ∧ (keepV d at_ p).1.falls = d.falls := by
  unfold keepV
  rw [if_neg (by omega)]
  exact Dk.quiet.ops _ h (kops_in hr)
/-- A book that is up, on a disk whose power stays. -/
structure fine (S : DB) : Prop where
  d : S.1.quiet
  falls : S.2.falls = S.1.falls
theorem fine.up {S : DB} (h : fine S) : ¬ downV S := fun hd => hd h.falls
theorem putV_full {S : DB} {e : En} (h : (keepV S.1 S.2.at_ (payE e)).2 = 0) : putV S e = (((keepV S.1 S.2.at_ (payE e)).1, ⟨chgd S.2.logs e, S.2.at_ + secN (payE e).length, S.2.falls⟩), 0) := if_pos h
theorem put_fine {S : DB} (h : fine S) {e : En} (he : enOk e) (hr : S.2.at_ + 17 ≤ S.1.safe.length) :
    (putV S e).2 = 0 ∧ fine (putV S e).1 ∧ (putV S e).1.2.at_ ≤ S.2.at_ + 17 ∧ (putV S e).1.1.safe.length = S.1.safe.length ∧ (putV S e).1.2.logs = chgd S.2.logs e := by
  have h1 := secN_pay he
  obtain ⟨h2, h3, h4⟩ := keep_fine h.d (p := payE e) (at_ := S.2.at_) (by omega)
  rw [putV_full h2]
  exact ⟨rfl, ⟨h3, h.falls.trans h4.symm⟩, by show S.2.at_ + _ ≤ _; omega, keepV_len _ _ _, rfl⟩

/-! ### room -/
theorem countP_lt {α : Type} {P Q : α → Bool} (h : ∀ x, P x = true → Q x = true) {e : α} (he : Q e = true) (hn : P e = false) : ∀ l : List α, e ∈ l → l.countP P + 1 ≤ l.countP Q
  | x :: l, hm => by
    have hle : l.countP P ≤ l.countP Q := List.countP_mono_left fun x _ => h x
    rw [List.countP_cons, List.countP_cons]
    by_cases hx : e = x
    · subst hx
      rw [he, hn]
      simp; exact hle
    · have := countP_lt h he hn l (by
        rcases List.mem_cons.1 hm with h1 | h1
        · exact absurd h1 hx
        · exact h1)
      cases hp : P x with
      | true => rw [h x hp]; simp; omega
      | false => cases Q x <;> simp <;> omega
/-- Of office p from a number on, and of later offices. -/
def aft (p no : Nat) (e : En) : Bool := decide (p < e.office.toNat ∨ e.office.toNat = p ∧ no ≤ e.no.toNat)
def cnt (l : List En) (p no : Nat) : Nat := l.countP (aft p no)
theorem cnt_le (l : List En) (p no : Nat) : cnt l p no ≤ l.length := List.countP_le_length
theorem cnt_next (l : List En) (p no : Nat) : cnt l p (no + 1) ≤ cnt l p no := List.countP_mono_left fun x _ h => by
  unfold aft at h ⊢
  rw [decide_eq_true_iff] at h ⊢
  omega
theorem cnt_office (l : List En) (p no : Nat) : cnt l (p + 1) 0 ≤ cnt l p no := List.countP_mono_left fun x _ h => by
  unfold aft at h ⊢
  rw [decide_eq_true_iff] at h ⊢
  omega
theorem cnt_bst {l : List En} {p no : Nat} {e : En} (h : bst l p no = some e) : cnt l p (no + 1) + 1 ≤ cnt l p no := by
  obtain ⟨_, h1, h2⟩ := bst_ok h
  refine countP_lt (e := e) (fun x hx => ?_) ?_ ?_ l (bst_mem h)
  · unfold aft at hx ⊢
    rw [decide_eq_true_iff] at hx ⊢
    omega
  · unfold aft; rw [decide_eq_true_iff]; omega
  · unfold aft; rw [decide_eq_false_iff_not]; omega
structure room (k : Nat) (S T : DB) : Prop where
  at_ : T.2.at_ ≤ S.2.at_ + k
  len : T.1.safe.length = S.1.safe.length
theorem takeIn_fine (l : List En) (p : Nat) : ∀ f no S n, fine S → S.2.at_ + 17 * cnt l p no ≤ S.1.safe.length →
    (takeIn l p f no S n).err = 0 ∧ fine (takeIn l p f no S n).S ∧ (takeIn l p f no S n).S.1.safe.length = S.1.safe.length ∧ (takeIn l p f no S n).S.2.at_ + 17 * cnt l (p + 1) 0 ≤ S.2.at_ + 17 * cnt l p no
  | 0, no, S, n, h, hr => ⟨rfl, h, rfl, by have := cnt_office l p no; show S.2.at_ + _ ≤ _; omega⟩
  | f + 1, no, S, n, h, hr => by
    have h1 := cnt_next l p no
    have h2 := cnt_office l p no
    unfold takeIn
    split
    · split
      · rename_i e he
        have h3 := cnt_bst he
        split
        · obtain ⟨p1, p2, p3, p4, p5⟩ := put_fine h (e := e) (bst_ok he).1 (by omega)
          rw [if_pos p1]
          obtain ⟨q1, q2, q3, q4⟩ := takeIn_fine l p f (no + 1) (putV S e).1 (n + 1) p2 (by rw [p4]; omega)
          exact ⟨q1, q2, q3.trans p4, by omega⟩
        · obtain ⟨q1, q2, q3, q4⟩ := takeIn_fine l p f (no + 1) S n h (by omega)
          exact ⟨q1, q2, q3, by omega⟩
      · obtain ⟨q1, q2, q3, q4⟩ := takeIn_fine l p f (no + 1) S n h (by omega)
        exact ⟨q1, q2, q3, by omega⟩
    · exact ⟨rfl, h, rfl, by show S.2.at_ + _ ≤ _; omega⟩
theorem takeO_fine (l : List En) : ∀ f p S n, fine S → S.2.at_ + 17 * cnt l p 0 ≤ S.1.safe.length →
    (takeO l f p S n).err = 0 ∧ fine (takeO l f p S n).S ∧ (takeO l f p S n).S.1.safe.length = S.1.safe.length ∧ (takeO l f p S n).S.2.at_ ≤ S.2.at_ + 17 * cnt l p 0
  | 0, p, S, n, h, hr => ⟨rfl, h, rfl, by show S.2.at_ ≤ _; omega⟩
  | f + 1, p, S, n, h, hr => by
    obtain ⟨q1, q2, q3, q4⟩ := takeIn_fine l p 66 0 S n h hr
    unfold takeO
    rw [if_pos q1]
    obtain ⟨r1, r2, r3, r4⟩ := takeO_fine l f (p + 1) _ (takeIn l p 66 0 S n).n q2 (by rw [q3]; omega)
    exact ⟨r1, r2, r3.trans q3, by omega⟩
theorem takeV_up {S : DB} (h : fine S) (l : List En) : takeV S l = takeO l S.2.logs.length 0 S 0 := if_neg h.up
theorem takeV_fine {S : DB} (h : fine S) {l : List En} (hr : S.2.at_ + 17 * l.length ≤ S.1.safe.length) :
    (takeV S l).err = 0 ∧ fine (takeV S l).S ∧ room (17 * l.length) S (takeV S l).S := by
  have h1 := cnt_le l 0 0
  obtain ⟨r1, r2, r3, r4⟩ := takeO_fine l S.2.logs.length 0 S 0 h (by omega)
  rw [takeV_up h]
  exact ⟨r1, r2, ⟨by omega, r3⟩⟩

/-! ### nothing is left to be done -/
def dn (l : List En) (L : List (List En)) (p : Nat) : Prop := ∀ (k : Nat) (e : En), bst l p k = some e → ¬ chg L e
theorem chg_congr {L M : List (List En)} {e : En} (hl : L.length = M.length) (hg : L.getD e.office.toNat [] = M.getD e.office.toNat []) : chg L e ↔ chg M e := by
  unfold chg; rw [hl, hg]
theorem dn_congr {l : List En} {L M : List (List En)} {p : Nat} (hl : L.length = M.length) (hg : L.getD p [] = M.getD p []) (h : dn l L p) : dn l M p := fun k e he hc => by
  obtain ⟨_, h1, _⟩ := bst_ok he
  exact h k e he ((chg_congr hl (by rw [h1, Int.toNat_natCast]; exact hg)).2 hc)
theorem putV_logs {S : DB} {e : En} (h : (putV S e).2 = 0) : (putV S e).1.2.logs = chgd S.2.logs e := by
  unfold putV at h ⊢
  split
  · rfl
  · rename_i h1
    rw [if_neg h1] at h
    exact absurd h h1
theorem takeIn_other (l : List En) (p q : Nat) (hq : q ≠ p) : ∀ f no S n, (takeIn l p f no S n).S.2.logs.getD q [] = S.2.logs.getD q []
  | 0, _, _, _ => rfl
  | f + 1, no, S, n => by
    unfold takeIn
    split
    · split
      · rename_i e he
        obtain ⟨_, h1, _⟩ := bst_ok he
        split
        · rename_i hc
          have hp : (putV S e).1.2.logs.getD q [] = S.2.logs.getD q [] := by
            by_cases h0 : (putV S e).2 = 0
            · rw [putV_logs h0, chgd_get hc.2.1, if_neg (by rw [h1, Int.toNat_natCast]; exact hq)]
            · unfold putV at h0 ⊢
              split
              · rename_i h2; rw [if_pos h2] at h0; exact absurd rfl h0
              · rfl
          split
          · rw [takeIn_other l p q hq f, hp]
          · exact hp
        · exact takeIn_other l p q hq f _ _ _
      · exact takeIn_other l p q hq f _ _ _
    · rfl
theorem takeIn_done (l : List En) (p : Nat) : ∀ f no S n B, okS B S → p < S.2.logs.length → 66 ≤ no + f → (takeIn l p f no S n).err = 0 →
    (∀ k : Nat, k < no → ∀ e, bst l p k = some e → ¬ chg S.2.logs e) → dn l (takeIn l p f no S n).S.2.logs p
  | 0, no, S, n, B, hS, hp, hf, _, hd => fun k e he => by
    by_cases hk : k < no
    · exact hd k hk e he
    · obtain ⟨_, h1, h2⟩ := bst_ok he
      have h3 := hS.wf.log p hp
      show ¬ chg S.2.logs e
      rintro ⟨_, _, h4⟩
      rw [h1, Int.toNat_natCast, h2, Int.toNat_natCast] at h4
      rcases h4 with h4 | ⟨h4, _⟩ <;> omega
  | f + 1, no, S, n, B, hS, hp, hf, herr, hd => by
    have later : ∀ k : Nat, (S.2.logs.getD p []).length < k → ∀ e, bst l p k = some e → ¬ chg S.2.logs e := fun k hk e he => by
      obtain ⟨_, h1, h2⟩ := bst_ok he
      rintro ⟨_, _, h4⟩
      rw [h1, Int.toNat_natCast, h2, Int.toNat_natCast] at h4
      rcases h4 with h4 | ⟨h4, _⟩ <;> omega
    unfold takeIn at herr ⊢
    split at herr
    · rename_i hno
      rw [if_pos hno]
      cases hb : bst l p no with
      | none =>
        rw [hb] at herr
        simp only at herr ⊢
        refine takeIn_done l p f (no + 1) S n B hS hp (by omega) herr fun k hk e he => ?_
        by_cases hk2 : k < no
        · exact hd k hk2 e he
        · have : k = no := by omega
          subst this; rw [hb] at he; cases he
      | some e0 =>
        rw [hb] at herr
        simp only at herr ⊢
        by_cases hc : chg S.2.logs e0
        · rw [if_pos hc] at herr ⊢
          by_cases h0 : (putV S e0).2 = 0
          · rw [if_pos h0] at herr ⊢
            have hlg := putV_logs h0
            refine takeIn_done l p f (no + 1) _ _ _ (hS.put hc) (by rw [putV_len]; exact hp) (by omega) herr fun k hk e he => ?_
            obtain ⟨e1, e2, e3⟩ := bst_ok he
            obtain ⟨z1, z2, z3⟩ := bst_ok hb
            have y2 : e0.office.toNat = p := by omega
            have y3 : e0.no.toNat = no := by omega
            have x2 : e.office.toNat = p := by omega
            have x3 : e.no.toNat = k := by omega
            have hlen : e0.no.toNat = (S.2.logs.getD p []).length ∨ e0.no.toNat < (S.2.logs.getD p []).length := by omega
            have hg : (chgd S.2.logs e0).getD p [] = put1 (S.2.logs.getD p []) e0 := by rw [chgd_get (by omega), if_pos y2.symm]
            rw [hlg]
            rintro ⟨_, c2, c3⟩
            rw [x2, x3, hg, put1_len hlen, put1_get hlen, y3] at c3
            by_cases hk2 : k < no
            · have hn := hd k hk2 e he
              rw [if_neg (by omega)] at c3
              refine hn ⟨e1, by omega, ?_⟩
              rw [x2, x3]
              rcases c3 with c3 | ⟨c3, c4⟩
              · omega
              · exact .inr ⟨by omega, c4⟩
            · have : k = no := by omega
              subst this
              rw [hb] at he; cases he
              rw [if_pos rfl, bl_irr] at c3
              rcases c3 with c3 | c3
              · omega
              · exact absurd c3.2 (by decide)
          · rw [if_neg h0] at herr
            exact absurd herr h0
        · rw [if_neg hc] at herr ⊢
          refine takeIn_done l p f (no + 1) S n B hS hp (by omega) herr fun k hk e he => ?_
          by_cases hk2 : k < no
          · exact hd k hk2 e he
          · have : k = no := by omega
            subst this; rw [hb] at he; cases he; exact hc
    · rename_i hno
      rw [if_neg hno]
      intro k e he
      by_cases hk : k < no
      · exact hd k hk e he
      · exact later k (by omega) e he
theorem takeO_done (l : List En) : ∀ f p S n B, okS B S → p + f = S.2.logs.length → (takeO l f p S n).err = 0 → (∀ q < p, dn l S.2.logs q) → ∀ q < S.2.logs.length, dn l (takeO l f p S n).S.2.logs q
  | 0, p, S, n, B, hS, hf, _, hd => fun q hq => hd q (by omega)
  | f + 1, p, S, n, B, hS, hf, herr, hd => by
    unfold takeO at herr ⊢
    by_cases h0 : (takeIn l p 66 0 S n).err = 0
    · rw [if_pos h0] at herr ⊢
      have hlen := takeIn_len l p 66 0 S n
      rw [← hlen]
      refine takeO_done l f (p + 1) _ _ _ (takeIn_ok l p 66 0 S n B hS) (by rw [hlen]; omega) herr fun q hq => ?_
      by_cases hqp : q = p
      · subst hqp
        exact takeIn_done l q 66 0 S n B hS (by omega) (by omega) h0 fun k hk => by omega
      · exact dn_congr hlen.symm (takeIn_other l p q hqp 66 0 S n).symm (hd q (by omega))
    · rw [if_neg h0] at herr
      exact absurd herr h0
theorem takeIn_none {l : List En} {p : Nat} {S : DB} (h : dn l S.2.logs p) : ∀ f no n, takeIn l p f no S n = ⟨S, n, 0⟩
  | 0, _, _ => rfl
  | f + 1, no, n => by
    unfold takeIn
    split
    · split
      · rename_i e he
        rw [if_neg (h no e he)]
        exact takeIn_none h f _ _
      · exact takeIn_none h f _ _
    · rfl
theorem takeO_none {l : List En} {S : DB} (h : ∀ q < S.2.logs.length, dn l S.2.logs q) : ∀ f p n, p + f ≤ S.2.logs.length → takeO l f p S n = ⟨S, n, 0⟩
  | 0, _, _, _ => rfl
  | f + 1, p, n, hf => by
    unfold takeO
    rw [takeIn_none (h p (by omega))]
    exact takeO_none h f _ _ (by omega)
theorem takeO_len (l : List En) : ∀ f p S n, (takeO l f p S n).S.2.logs.length = S.2.logs.length
  | 0, _, _, _ => rfl
  | f + 1, p, S, n => by
    unfold takeO
    split
    · rw [takeO_len l f, takeIn_len]
    · exact takeIn_len _ _ _ _ _ _
/-- A second time there is nothing to do. -/
theorem takeV_again {B : Nat} {S : DB} (hS : okS B S) (h : fine S) {l : List En} (h0 : (takeV S l).err = 0) (hT : fine (takeV S l).S) : takeV (takeV S l).S l = ⟨(takeV S l).S, 0, 0⟩ := by
  rw [takeV_up hT]
  rw [takeV_up h] at h0 ⊢
  have hl := takeO_len l S.2.logs.length 0 S 0
  refine takeO_none (fun q hq => ?_) _ _ _ (by omega)
  exact takeO_done l _ 0 S 0 B hS (by omega) h0 (fun q hq => by omega) q (by omega)

/-! ### adding what is there -/
theorem flat_mem {L : List (List En)} {e : En} (h : e ∈ L.flatten) : ∃ p < L.length, ∃ i < (L.getD p []).length, (L.getD p []).getD i default = e := by
  obtain ⟨q, hq, he⟩ := List.mem_flatten.1 h
  obtain ⟨p, hp, rfl⟩ := List.getElem_of_mem hq
  obtain ⟨i, hi, rfl⟩ := List.getElem_of_mem he
  have e1 : L.getD p [] = L[p] := by rw [List.getD_eq_getElem?_getD, List.getElem?_eq_getElem hp]; rfl
  refine ⟨p, hp, i, by rw [e1]; exact hi, ?_⟩
  rw [e1, List.getD_eq_getElem?_getD, List.getElem?_eq_getElem hi]; rfl
theorem addV_there {S : DB} (h : fine S) (hw : wfL S.2.logs) {e : En} (he : e ∈ S.2.logs.flatten) : addV S e = (S, 0) := by
  obtain ⟨p, hp, i, hi, rfl⟩ := flat_mem he
  obtain ⟨h1, h2, h3⟩ := hw.en p hp i hi
  have y2 : ((S.2.logs.getD p []).getD i default).office.toNat = p := by omega
  have y3 : ((S.2.logs.getD p []).getD i default).no.toNat = i := by omega
  unfold addV
  rw [if_neg h.up, if_neg (by rw [y2]; exact fun hn => hn ⟨h1, hp⟩), y2, y3, if_pos ⟨hi, rfl⟩]

/-! ### a new book -/
theorem payB_len' (n : Nat) : (payB n).length = 2 := rfl
/-- A new book of o offices on a new disk of n sectors. -/
def new0 (n o : Nat) : DB := ((keepV (Dk.mk0 n) 0 (payB o)).1, ⟨List.replicate o [], 1, 0⟩)
theorem mk0_len (n : Nat) : (Dk.mk0 n).safe.length = n := by simp [Dk.mk0]
theorem new0_keep {n o : Nat} (hn : 1 ≤ n) : (keepV (Dk.mk0 n) 0 (payB o)).2 = 0 ∧ (keepV (Dk.mk0 n) 0 (payB o)).1.quiet ∧ (keepV (Dk.mk0 n) 0 (payB o)).1.falls = 0 :=
  keep_fine (Dk.quiet.mk0 n) (by rw [mk0_len, payB_len']; exact hn)
theorem new0_make {n o : Nat} (hn : 1 ≤ n) (ho : 1 ≤ o ∧ o ≤ 8) : makeV (Dk.mk0 n) o = ((new0 n o).1, some (new0 n o).2, 0) := by
  unfold makeV
  rw [if_neg (by omega), if_neg (show ¬ ((Dk.mk0 n).off = true) from Bool.false_ne_true), Int.toNat_natCast, if_pos (new0_keep hn).1]
  rfl
theorem new0_fine {n o : Nat} (hn : 1 ≤ n) : fine (new0 n o) := ⟨(new0_keep hn).2.1, (new0_keep hn).2.2.symm⟩
theorem new0_len (n o : Nat) : (new0 n o).1.safe.length = n := (keepV_len _ _ _).trans (mk0_len n)
theorem new0_ok {n o : Nat} (hn : 1 ≤ n ∧ n ≤ 4096) (ho : o ≤ 8) : okS 20 (new0 n o) := by
  have h1 := keepV_okB (Dk.okB.mk0 hn.2) 0 (payB o)
  exact ⟨h1.mono (by rw [payB_len']; decide), wfL.nil ho, by rw [new0_len]; exact hn.1⟩
end Go.Proofs.Ytlbmlimaobkhpaa
/- Books: what taking leaves; two books that take what they want of each other. No program in sight. -/
namespace Go.Proofs.Ytlbmlimaobkhpaa
set_option linter.unusedSimpArgs false
set_option linter.unusedVariables false
theorem bl_asym {a b : Str} (h : Op.bytesLess a b = true) : Op.bytesLess b a = false := by
  cases h2 : Op.bytesLess b a with
  | false => rfl
  | true => have := bl_trans a b a h h2; rw [bl_irr] at this; cases this
/-- Logs that came from others by messages of a list. -/
structure Came (l : List En) (L T : List (List En)) : Prop where
  len : T.length = L.length
  le : ∀ p, (L.getD p []).length ≤ (T.getD p []).length
  less : ∀ p i, i < (L.getD p []).length → Op.bytesLess ((L.getD p []).getD i default).body ((T.getD p []).getD i default).body = false
  got : ∀ p i, i < (T.getD p []).length → (i < (L.getD p []).length ∧ (T.getD p []).getD i default = (L.getD p []).getD i default) ∨ (T.getD p []).getD i default ∈ l
theorem Came.refl (l : List En) (L : List (List En)) : Came l L L := ⟨rfl, fun _ => Nat.le_refl _, fun _ _ _ => bl_irr _, fun _ _ h => .inl ⟨h, rfl⟩⟩
theorem Came.trans {l : List En} {L M T : List (List En)} (h : Came l L M) (h2 : Came l M T) : Came l L T := by
  refine ⟨h2.len.trans h.len, fun p => Nat.le_trans (h.le p) (h2.le p), fun p i hi => ?_, fun p i hi => ?_⟩
  · exact bl_le_trans (h2.less p i (Nat.lt_of_lt_of_le hi (h.le p))) (h.less p i hi)
  · rcases h2.got p i hi with ⟨h3, e⟩ | h3
    · rw [e]; exact h.got p i h3
    · exact .inr h3
theorem Came.mono {l m : List En} {L T : List (List En)} (h : Came l L T) (hm : ∀ e ∈ l, e ∈ m) : Came m L T := ⟨h.len, h.le, h.less, fun p i hi => (h.got p i hi).imp id (hm _)⟩
theorem Came.put {l : List En} {L : List (List En)} {e : En} (hc : chg L e) (he : e ∈ l) : Came l L (chgd L e) := by
  obtain ⟨h1, h2, h3⟩ := hc
  have h4 : e.no.toNat = (L.getD e.office.toNat []).length ∨ e.no.toNat < (L.getD e.office.toNat []).length := h3.imp id And.left
  refine ⟨chgd_len _ _, fun p => ?_, fun p i hi => ?_, fun p i hi => ?_⟩
  · rw [chgd_get h2]
    split
    · rename_i e1; subst e1; rw [put1_len h4]; omega
    · exact Nat.le_refl _
  · rw [chgd_get h2]
    split
    · rename_i e1; subst e1
      rw [put1_get h4]
      split
      · rename_i e2
        rw [← e2] at h3
        rcases h3 with h3 | h3
        · omega
        · exact bl_asym h3.2
      · exact bl_irr _
    · exact bl_irr _
  · rw [chgd_get h2] at hi ⊢
    split at hi
    · rename_i e1; subst e1
      rw [if_pos rfl, put1_get h4]
      rw [put1_len h4] at hi
      split
      · exact .inr he
      · rename_i e2
        exact .inl ⟨by omega, rfl⟩
    · rename_i e1
      rw [if_neg e1]
      exact .inl ⟨hi, rfl⟩
theorem putV_came {l : List En} {S : DB} {e : En} (hc : chg S.2.logs e) (he : e ∈ l) : Came l S.2.logs (putV S e).1.2.logs := by
  unfold putV
  split
  · exact Came.put hc he
  · exact Came.refl _ _
theorem takeIn_came (l : List En) (p : Nat) : ∀ f no S n, Came l S.2.logs (takeIn l p f no S n).S.2.logs
  | 0, _, S, _ => Came.refl _ _
  | f + 1, no, S, n => by
    unfold takeIn
    split
    · split
      · rename_i e he
        split
        · rename_i hc
          have h1 := putV_came hc (bst_mem he)
          split
          · exact h1.trans (takeIn_came l p f _ _ _)
          · exact h1
        · exact takeIn_came l p f _ _ _
      · exact takeIn_came l p f _ _ _
    · exact Came.refl _ _
theorem takeO_came (l : List En) : ∀ f p S n, Came l S.2.logs (takeO l f p S n).S.2.logs
  | 0, _, S, _ => Came.refl _ _
  | f + 1, p, S, n => by
    unfold takeO
    split
    · exact (takeIn_came l p 66 0 S n).trans (takeO_came l f _ _ _)
    · exact takeIn_came l p 66 0 S n
theorem takeV_came (S : DB) (l : List En) : Came l S.2.logs (takeV S l).S.2.logs := by
  unfold takeV
  split
  · exact Came.refl _ _
  · exact takeO_came _ _ _ _ _
theorem takeV_done {B : Nat} {S : DB} (hS : okS B S) (h : fine S) {l : List En} (h0 : (takeV S l).err = 0) : ∀ q < S.2.logs.length, dn l (takeV S l).S.2.logs q := by
  rw [takeV_up h] at h0 ⊢
  exact fun q hq => takeO_done l _ 0 S 0 B hS (by omega) h0 (fun q hq => by omega) q hq
/-- What a message that was taken in leaves. -/
theorem dn_le {l : List En} {T : List (List En)} {p i : Nat} {e : En} (hp : p < T.length) (hd : dn l T p) (he : e ∈ l) (ha : aim p i e) : i ≠ (T.getD p []).length ∧ (i < (T.getD p []).length → Op.bytesLess e.body ((T.getD p []).getD i default).body = false) := by
  have hb := bst_isB l p i
  cases hg : bst l p i with
  | none => rw [hg] at hb; exact absurd ha (hb e he)
  | some b =>
    rw [hg] at hb
    obtain ⟨h1, h2, h3⟩ := bst_ok hg
    have hn := hd i b hg
    have hno : ¬ (i = (T.getD p []).length ∨ i < (T.getD p []).length ∧ Op.bytesLess b.body ((T.getD p []).getD i default).body = true) := by
      intro hx
      refine hn ⟨h1, by omega, ?_⟩
      rw [h2, Int.toNat_natCast, h3, Int.toNat_natCast]
      exact hx
    refine ⟨fun hx => hno (.inl hx), fun hi => ?_⟩
    have h5 : Op.bytesLess b.body ((T.getD p []).getD i default).body = false := by
      cases h6 : Op.bytesLess b.body ((T.getD p []).getD i default).body with
      | false => rfl
      | true => exact absurd (.inr ⟨hi, h6⟩) hno
    exact bl_le_trans h5 (hb.2 e he ha)
theorem wfL.aim {L : List (List En)} (h : wfL L) {p i : Nat} (hp : p < L.length) (hi : i < (L.getD p []).length) : aim p i ((L.getD p []).getD i default) := h.en p hp i hi
theorem wfL.at_ {L : List (List En)} (h : wfL L) {p i q j : Nat} (hp : p < L.length) (hi : i < (L.getD p []).length) (ha : Go.Proofs.Ytlbmlimaobkhpaa.aim q j ((L.getD p []).getD i default)) : p = q ∧ i = j := by
  obtain ⟨_, h1, h2⟩ := h.en p hp i hi
  obtain ⟨_, h3, h4⟩ := ha
  omega
/-- The lesser of two logs, message by message. -/
structure Half (A B T : List (List En)) : Prop where
  len : T.length = B.length
  cnt : ∀ p < B.length, (T.getD p []).length = max (A.getD p []).length (B.getD p []).length
  leA : ∀ p < B.length, ∀ i < (A.getD p []).length, Op.bytesLess ((A.getD p []).getD i default).body ((T.getD p []).getD i default).body = false
  leB : ∀ p < B.length, ∀ i < (B.getD p []).length, Op.bytesLess ((B.getD p []).getD i default).body ((T.getD p []).getD i default).body = false
  one : ∀ p < B.length, ∀ i < (T.getD p []).length, (i < (A.getD p []).length ∧ (T.getD p []).getD i default = (A.getD p []).getD i default) ∨ (i < (B.getD p []).length ∧ (T.getD p []).getD i default = (B.getD p []).getD i default)
theorem getD_ext {α : Type} {d : α} {l m : List α} (hl : l.length = m.length) (h : ∀ i < l.length, l.getD i d = m.getD i d) : l = m := by
  refine List.ext_getElem hl fun i h1 h2 => ?_
  have := h i h1
  rwa [List.getD_eq_getElem?_getD, List.getD_eq_getElem?_getD, List.getElem?_eq_getElem h1, List.getElem?_eq_getElem h2] at this
theorem Half.eq {A B T U : List (List En)} (h : Half A B T) (g : Half B A U) (hl : A.length = B.length) (hT : wfL T) (hU : wfL U) : T = U := by
  have h1 := h.len
  have h2 := g.len
  refine getD_ext (d := []) (by omega) fun p hp => ?_
  have c1 := h.cnt p (by omega)
  have c2 := g.cnt p (by omega)
  refine getD_ext (d := default) (by omega) fun i hi => ?_
  refine En.same (hT.aim hp hi) (hU.aim (by omega) (by omega)) (bl_tri _ _ ?_ ?_)
  · rcases h.one p (by omega) i hi with ⟨h3, e⟩ | ⟨h3, e⟩
    · rw [e]; exact g.leB p (by omega) i h3
    · rw [e]; exact g.leA p (by omega) i h3
  · rcases g.one p (by omega) i (by omega) with ⟨h3, e⟩ | ⟨h3, e⟩
    · rw [e]; exact h.leB p (by omega) i h3
    · rw [e]; exact h.leA p (by omega) i h3
/-- What one book gets of another: of each message of it this one is in the list, or the book has it. -/
theorem Half.of {A B T : List (List En)} {l : List En} (hl : A.length = B.length) (hA : wfL A) (hT : wfL T) (hc : Came l B T) (hd : ∀ p < B.length, dn l T p)
    (hin : ∀ e ∈ l, ∃ p < A.length, ∃ i < (A.getD p []).length, (A.getD p []).getD i default = e)
    (hall : ∀ p < A.length, ∀ i < (A.getD p []).length, (A.getD p []).getD i default ∈ l ∨ i < (B.getD p []).length ∧ (A.getD p []).getD i default = (B.getD p []).getD i default) : Half A B T := by
  have hTl := hc.len
  have one : ∀ p < B.length, ∀ i < (T.getD p []).length, (i < (A.getD p []).length ∧ (T.getD p []).getD i default = (A.getD p []).getD i default) ∨ (i < (B.getD p []).length ∧ (T.getD p []).getD i default = (B.getD p []).getD i default) := fun p hp i hi => by
    rcases hc.got p i hi with h1 | h1
    · exact .inr h1
    · obtain ⟨q, hq, j, hj, e⟩ := hin _ h1
      have ha := hT.aim (by omega) hi
      rw [← e] at ha
      obtain ⟨rfl, rfl⟩ := hA.at_ hq hj ha
      exact .inl ⟨hj, e.symm⟩
  refine ⟨hTl, fun p hp => ?_, fun p hp i hi => ?_, fun p hp i hi => hc.less p i hi, one⟩
  · have h1 := hc.le p
    have h2 : (A.getD p []).length ≤ (T.getD p []).length := by
      rcases Nat.lt_or_ge (T.getD p []).length (A.getD p []).length with h | h
      · rcases hall p (by omega) _ h with h3 | ⟨h3, _⟩
        · exact absurd rfl (dn_le (by omega) (hd p hp) h3 (hA.aim (by omega) h)).1
        · omega
      · exact h
    have h3 : (T.getD p []).length ≤ max (A.getD p []).length (B.getD p []).length := by
      rcases Nat.lt_or_ge (max (A.getD p []).length (B.getD p []).length) (T.getD p []).length with h | h
      · rcases one p hp _ h with ⟨h4, _⟩ | ⟨h4, _⟩ <;> omega
      · exact h
    omega
  · rcases hall p (by omega) i hi with h3 | ⟨h3, e⟩
    · have h4 := dn_le (by omega) (hd p hp) h3 (hA.aim (by omega) hi)
      have h5 : i < (T.getD p []).length := by
        have h1 := hc.le p
        rcases Nat.lt_or_ge i (T.getD p []).length with h | h
        · exact h
        · rcases Nat.lt_or_ge (T.getD p []).length (A.getD p []).length with h6 | h6
          · rcases hall p (by omega) _ h6 with h7 | ⟨h7, _⟩
            · exact absurd rfl (dn_le (by omega) (hd p hp) h7 (hA.aim (by omega) h6)).1
            · omega
          · omega
      exact h4.2 h5
    · rw [e]; exact hc.less p i h3
end Go.Proofs.Ytlbmlimaobkhpaa
/- RadioOnce: the plain law. No program in sight. -/
namespace Go.Proofs.Ytlbmlimaobkhpaa
set_option linter.unusedSimpArgs false
set_option linter.unusedVariables false
/-- The messages in another order, and some of them again. -/
def backI (g : List En) (t : Nat) : Nat → List En
  | 0 => []
  | k + 1 => (backI g t k ++ [g.getD ((g.length - 1 - k + t) % g.length) default]) ++ [g.getD (g.length - 1 - k) default]
theorem backI_len (g : List En) (t : Nat) : ∀ k, (backI g t k).length = 2 * k
  | 0 => rfl
  | k + 1 => by
    rw [backI, List.length_append, List.length_append, backI_len g t k]; simp; omega
theorem backI_sub (g : List En) (t : Nat) (x : En) : ∀ k, k ≤ g.length → x ∈ backI g t k → x ∈ g
  | 0, _, h => by cases h
  | k + 1, hk, h => by
    rw [backI] at h
    rcases List.mem_append.1 h with h1 | h1
    · rcases List.mem_append.1 h1 with h2 | h2
      · exact backI_sub g t x k (by omega) h2
      · rw [List.mem_singleton.1 h2]; exact getD_mem' (Nat.mod_lt _ (by omega))
    · rw [List.mem_singleton.1 h1]; exact getD_mem' (by omega)
theorem backI_has (g : List En) (t : Nat) : ∀ k, k ≤ g.length → ∀ i, g.length - k ≤ i → i < g.length → g.getD i default ∈ backI g t k
  | 0, _, i, h1, h2 => by omega
  | k + 1, hk, i, h1, h2 => by
    rw [backI]
    by_cases h3 : i = g.length - 1 - k
    · subst h3; exact List.mem_append_right _ (List.Mem.head _)
    · exact List.mem_append_left _ (List.mem_append_left _ (backI_has g t k (by omega) i (by omega) h2))
theorem backI_mem (g : List En) (t : Nat) (x : En) : x ∈ g ↔ x ∈ backI g t g.length := by
  constructor
  · intro h
    obtain ⟨i, hi, rfl⟩ := List.getElem_of_mem h
    have := backI_has g t g.length (Nat.le_refl _) i (by omega) hi
    rwa [List.getD_eq_getElem?_getD, List.getElem?_eq_getElem hi] at this
  · exact backI_sub g t x _ (Nat.le_refl _)
/-- What the law sees of two books. -/
structure OnceK (g bk : List En) (S0 S1 : DB) (n : Nat) : Prop where
  t1 : takeV S0 g = ⟨S1, n, 0⟩
  t2 : takeV S0 bk = ⟨S1, n, 0⟩
  t3 : takeV S1 g = ⟨S1, 0, 0⟩
  ok0 : okS 20 S0
  ok1 : okS 10580 S1
  fine : fine S1
theorem once_plain {o : Nat} (ho : 1 ≤ o ∧ o ≤ 8) {g bk : List En} (hg : g.length ≤ 30) (hm : ∀ x, x ∈ g ↔ x ∈ bk) :
    ∃ S0 S1 n, makeV (Dk.mk0 4096) o = (S0.1, some S0.2, 0) ∧ OnceK g bk S0 S1 n := by
  have hf := new0_fine (n := 4096) (o := o) (by decide)
  have hok := new0_ok (n := 4096) (o := o) ⟨by decide, by decide⟩ ho.2
  have hlen := new0_len 4096 o
  have hat : (new0 4096 o).2.at_ = 1 := rfl
  have hmk := new0_make (n := 4096) (by decide) ho
  generalize new0 4096 o = S0 at *
  obtain ⟨h1, h2, h3⟩ := takeV_fine hf (l := g) (by rw [hlen, hat]; omega)
  have h4 := takeV_ok hok g
  have h5 := takeV_again hok hf h1 h2
  have h6 := takeV_eq hm S0
  obtain ⟨S1, n, x, hT⟩ : ∃ S1 n x, takeV S0 g = ⟨S1, n, x⟩ := ⟨_, _, _, rfl⟩
  rw [hT] at h1 h2 h4 h5 h6
  simp only at h1 h2 h4 h5
  subst h1
  exact ⟨S0, S1, n, hmk, hT, h6.symm, h5, hok, h4, h2⟩
end Go.Proofs.Ytlbmlimaobkhpaa
/- RadioAgree: the plain law. No program in sight. -/
namespace Go.Proofs.Ytlbmlimaobkhpaa
set_option linter.unusedSimpArgs false
set_option linter.unusedVariables false
/-! ### how many messages -/
def total (L : List (List En)) : Nat := L.flatten.length
theorem total_set : ∀ (L : List (List En)) (i : Nat) (x : List En), i < L.length → total (L.set i x) + (L.getD i []).length = total L + x.length
  | q :: L, 0, x, _ => by simp [total]; omega
  | q :: L, i + 1, x, h => by
    have := total_set L i x (by simpa using h)
    simp only [total, List.set_cons_succ, List.flatten_cons, List.length_append, List.getD_cons_succ] at this ⊢
    omega
theorem total_chgd {L : List (List En)} {e : En} (h : chg L e) : total (chgd L e) ≤ total L + 1 := by
  have h1 := total_set L e.office.toNat (put1 (L.getD e.office.toNat []) e) h.2.1
  have h2 : (put1 (L.getD e.office.toNat []) e).length ≤ (L.getD e.office.toNat []).length + 1 := by
    unfold put1; split <;> simp
  unfold chgd
  omega
theorem putV_total {S : DB} {e : En} (h : chg S.2.logs e) : total (putV S e).1.2.logs ≤ total S.2.logs + 1 := by
  unfold putV
  split
  · exact total_chgd h
  · exact Nat.le_succ _
theorem takeIn_total (l : List En) (p : Nat) : ∀ f no S n, total (takeIn l p f no S n).S.2.logs + cnt l (p + 1) 0 ≤ total S.2.logs + cnt l p no
  | 0, no, S, n => by have := cnt_office l p no; show total S.2.logs + _ ≤ _; omega
  | f + 1, no, S, n => by
    have h1 := cnt_next l p no
    have h2 := cnt_office l p no
    unfold takeIn
    split
    · split
      · rename_i e he
        have h3 := cnt_bst he
        split
        · rename_i hc
          have h4 := putV_total hc
          split
          · have := takeIn_total l p f (no + 1) (putV S e).1 (n + 1); omega
          · show total (putV S e).1.2.logs + _ ≤ _; have := cnt_office l p (no + 1); omega
        · have := takeIn_total l p f (no + 1) S n; omega
      · have := takeIn_total l p f (no + 1) S n; omega
    · show total S.2.logs + _ ≤ _; omega
theorem takeO_total (l : List En) : ∀ f p S n, total (takeO l f p S n).S.2.logs ≤ total S.2.logs + cnt l p 0
  | 0, p, S, n => Nat.le_add_right _ _
  | f + 1, p, S, n => by
    have h1 := takeIn_total l p 66 0 S n
    unfold takeO
    split
    · have := takeO_total l f (p + 1) (takeIn l p 66 0 S n).S (takeIn l p 66 0 S n).n; omega
    · omega
theorem takeV_total (S : DB) (l : List En) : total (takeV S l).S.2.logs ≤ total S.2.logs + l.length := by
  unfold takeV
  split
  · exact Nat.le_add_right _ _
  · have h1 := takeO_total l S.2.logs.length 0 S 0
    have h2 := cnt_le l 0 0
    omega
theorem total_new (o : Nat) : total (List.replicate o []) = 0 := by
  unfold total
  induction o with
  | zero => rfl
  | succ o ih => rw [List.replicate_succ, List.flatten_cons, List.length_append, ih]; rfl
/-! ### what is wanted -/
theorem want_total (L : List (List En)) (ns : List Int) (us : List Nat) : ∀ k, k ≤ L.length → (wantI L ns us k).length ≤ (L.take k).flatten.length
  | 0, _ => Nat.zero_le _
  | k + 1, hk => by
    have h1 := want_total L ns us k (by omega)
    have h2 : L.take (k + 1) = L.take k ++ [L.getD k []] := by
      rw [List.take_add_one, List.getD_eq_getElem?_getD, List.getElem?_eq_getElem (by omega)]; rfl
    rw [wantI, h2, List.flatten_append, List.length_append, List.length_append, List.length_drop, List.flatten_cons, List.flatten_nil, List.append_nil]
    omega
theorem want_sub (L : List (List En)) (ns : List Int) (us : List Nat) : ∀ k, k ≤ L.length → ∀ e ∈ wantI L ns us k, ∃ p < L.length, ∃ i < (L.getD p []).length, (L.getD p []).getD i default = e
  | 0, _, e, he => by cases he
  | k + 1, hk, e, he => by
    rw [wantI] at he
    rcases List.mem_append.1 he with h1 | h1
    · exact want_sub L ns us k (by omega) e h1
    · obtain ⟨i, hi, rfl⟩ := List.getElem_of_mem (List.mem_of_mem_drop h1)
      exact ⟨k, by omega, i, hi, by rw [List.getD_eq_getElem?_getD, List.getElem?_eq_getElem hi]; rfl⟩
theorem getD_dropE {l : List En} {w i : Nat} (h : w ≤ i) : (l.drop w).getD (i - w) default = l.getD i default := by
  rw [List.getD_eq_getElem?_getD, List.getElem?_drop, ← List.getD_eq_getElem?_getD, Nat.add_sub_cancel' h]
theorem want_in (L : List (List En)) (ns : List Int) (us : List Nat) {p i : Nat} (hi : i < (L.getD p []).length) (hw : wantN (L.getD p []) (ns.getD p default) (us.getD p default) ≤ i) : ∀ k, p < k → (L.getD p []).getD i default ∈ wantI L ns us k
  | 0, h => by omega
  | k + 1, h => by
    rw [wantI]
    by_cases hp : p = k
    · subst hp
      refine List.mem_append_right _ ?_
      have e : (L.getD p []).getD i default = ((L.getD p []).drop (wantN (L.getD p []) (ns.getD p default) (us.getD p default))).getD (i - wantN (L.getD p []) (ns.getD p default) (us.getD p default)) default := by
        exact (getD_dropE hw).symm
      rw [e]
      exact getD_mem' (by rw [List.length_drop]; omega)
    · exact List.mem_append_left _ (want_in L ns us hi hw k (by omega))
theorem mapD {α β : Type} {f : α → β} {l : List α} {k : Nat} {d : α} {d' : β} (h : k < l.length) : (l.map f).getD k d' = f (l.getD k d) := by
  rw [List.getD_eq_getElem?_getD, List.getElem?_map, List.getD_eq_getElem?_getD, List.getElem?_eq_getElem h]; rfl
theorem getD_takeE {l : List En} {n i : Nat} (h : i < n) : (l.take n).getD i default = l.getD i default := by
  rw [List.getD_eq_getElem?_getD, List.getElem?_take_of_lt h, ← List.getD_eq_getElem?_getD]
/-- A list that a book wants of another. -/
def wantL (A B : List (List En)) : List En := wantI A (B.map fun q => (q.length : Int)) (B.map sumL) A.length
def plainL (A B : List En) : Prop := ∀ n, n ≤ A.length → n ≤ B.length → sumL (A.take n) = sumL (B.take n) → A.take n = B.take n
theorem want_half {A B T : List (List En)} (hl : A.length = B.length) (hA : wfL A) (hT : wfL T) (hc : Came (wantL A B) B T) (hd : ∀ p < B.length, dn (wantL A B) T p) (hp : ∀ p < A.length, plainL (A.getD p []) (B.getD p [])) : Half A B T := by
  refine Half.of hl hA hT hc hd (fun e he => want_sub A _ _ _ (Nat.le_refl _) e he) fun p hpA i hi => ?_
  rcases Nat.lt_or_ge i (wantN (A.getD p []) (((B.map fun q => (q.length : Int))).getD p default) ((B.map sumL).getD p default)) with h | h
  · right
    rw [mapD (d := []) (by omega), mapD (d := []) (by omega)] at h
    unfold wantN at h
    split at h
    · omega
    · rename_i h1
      rw [Int.toNat_natCast] at h h1
      have h2 : (B.getD p []).length ≤ (A.getD p []).length := Nat.le_of_not_lt fun hx => h1 (.inl (by omega))
      have h3 : sumL ((A.getD p []).take (B.getD p []).length) = sumL (B.getD p []) := Decidable.byContradiction fun hx => h1 (.inr hx)
      have h4 := hp p hpA _ h2 (Nat.le_refl _) (by rw [h3, List.take_length])
      refine ⟨h, ?_⟩
      rw [← getD_takeE h, h4, getD_takeE h]
  · exact .inl (want_in A _ _ hi h _ hpA)
/-- Two books exchange what they want. -/
structure Up (k : Nat) (S : DB) : Prop where
  ok : okS (20 + 10560 * k) S
  fine : fine S
  len : S.1.safe.length = 4096
  at_ : S.2.at_ ≤ 1 + 17 * k
  total : total S.2.logs ≤ k
theorem Up.new {o : Nat} (ho : 1 ≤ o ∧ o ≤ 8) : Up 0 (new0 4096 o) := ⟨new0_ok ⟨by decide, by decide⟩ ho.2, new0_fine (by decide), new0_len _ _, Nat.le_refl _, Nat.le_of_eq (total_new o)⟩
theorem Up.take {k : Nat} {S : DB} (h : Up k S) {l : List En} {m : Nat} (hl : l.length ≤ m) (h1 : 1 ≤ m) (hr : 1 + 17 * (k + m) ≤ 4096) : ∃ T n, takeV S l = ⟨T, n, 0⟩ ∧ Up (k + m) T ∧ Came l S.2.logs T.2.logs ∧ ∀ p < S.2.logs.length, dn l T.2.logs p := by
  have h2 := h.len
  have h3 := h.at_
  have h4 := h.total
  obtain ⟨e1, e2, e3⟩ := takeV_fine h.fine (l := l) (by omega)
  have e4 := takeV_ok h.ok l
  have e5 := takeV_total S l
  have e6 := takeV_came S l
  have e7 := takeV_done h.ok h.fine e1
  obtain ⟨T, n, x, hT⟩ : ∃ T n x, takeV S l = ⟨T, n, x⟩ := ⟨_, _, _, rfl⟩
  rw [hT] at e1 e2 e3 e4 e5 e6 e7
  simp only at e1 e2 e3 e4 e5 e6 e7
  subst e1
  obtain ⟨e8, e9⟩ := e3
  exact ⟨T, n, hT, ⟨e4.mono (by omega), e2, by omega, by omega, by omega⟩, e6, e7⟩
theorem agree_plain {k m : Nat} {SA SB : DB} (hA : Up k SA) (hB : Up m SB) (hk : k ≤ 30) (hm : m ≤ 30) (hl : SA.2.logs.length = SB.2.logs.length) (hp : ∀ p < SA.2.logs.length, plainL (SA.2.logs.getD p []) (SB.2.logs.getD p [])) :
    ∃ TA TB na nb, takeV SA (wantL SB.2.logs SA.2.logs) = ⟨TA, na, 0⟩ ∧ takeV SB (wantL SA.2.logs SB.2.logs) = ⟨TB, nb, 0⟩ ∧ wfL TA.2.logs ∧ wfL TB.2.logs ∧ TA.2.logs = TB.2.logs := by
  have lA : (wantL SA.2.logs SB.2.logs).length ≤ k := by
    have := want_total SA.2.logs (SB.2.logs.map fun q => (q.length : Int)) (SB.2.logs.map sumL) _ (Nat.le_refl _)
    rw [List.take_length] at this
    exact Nat.le_trans this hA.total
  have lB : (wantL SB.2.logs SA.2.logs).length ≤ m := by
    have := want_total SB.2.logs (SA.2.logs.map fun q => (q.length : Int)) (SA.2.logs.map sumL) _ (Nat.le_refl _)
    rw [List.take_length] at this
    exact Nat.le_trans this hB.total
  obtain ⟨TA, na, a1, a2, a3, a4⟩ := hA.take (l := wantL SB.2.logs SA.2.logs) (m := m + 1) (by omega) (by omega) (by omega)
  obtain ⟨TB, nb, b1, b2, b3, b4⟩ := hB.take (l := wantL SA.2.logs SB.2.logs) (m := k + 1) (by omega) (by omega) (by omega)
  have q1 := want_half hl hA.ok.wf b2.ok.wf b3 b4 hp
  have q2 := want_half hl.symm hB.ok.wf a2.ok.wf a3 a4 fun p hp2 n h1 h2 h3 => (hp p (by omega) n h2 h1 h3.symm).symm
  exact ⟨TA, TB, na, nb, a1, b1, a2.ok.wf, b2.ok.wf, (q1.eq q2 hl b2.ok.wf a2.ok.wf).symm⟩
end Go.Proofs.Ytlbmlimaobkhpaa
