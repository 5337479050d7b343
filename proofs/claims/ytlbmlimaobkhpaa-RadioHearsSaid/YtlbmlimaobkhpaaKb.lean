/- Books to which messages are given: the plain law. -/
import Derived.Test.YtlbmlimaobkhpaaKa
set_option linter.unusedVariables false
set_option linter.unusedSimpArgs false
set_option linter.unusedSectionVars false
/- RadioLeast: the plain law. No program in sight. -/
namespace Go.Proofs.Ytlbmlimaobkhpaa
set_option linter.unusedSimpArgs false
set_option linter.unusedVariables false
/-- A message, or a lesser one about the same number. -/
def mt (e x : En) : Bool := decide (x.office = e.office ∧ x.no = e.no) && (Op.bytesLess x.body e.body || x.body == e.body)
def has (L : List (List En)) (e : En) : Prop := ∃ x ∈ L.flatten, mt e x = true
theorem mt_le {e x y : En} (h : mt e x = true) (ho : y.office = x.office) (hn : y.no = x.no) (hb : Op.bytesLess x.body y.body = false) : mt e y = true := by
  unfold mt at h ⊢
  simp only [Bool.and_eq_true, decide_eq_true_eq, Bool.or_eq_true, beq_iff_eq] at h ⊢
  obtain ⟨⟨h1, h2⟩, h3⟩ := h
  refine ⟨⟨ho.trans h1, hn.trans h2⟩, ?_⟩
  have h4 : Op.bytesLess e.body x.body = false := by
    rcases h3 with h3 | h3
    · exact bl_asym h3
    · rw [h3]; exact bl_irr _
  have h5 := bl_le_trans hb h4
  cases h6 : Op.bytesLess y.body e.body with
  | true => exact .inl rfl
  | false => exact .inr (bl_tri _ _ h6 h5)
theorem mt_self (e : En) : mt e e = true := by unfold mt; simp
theorem flat_has {L : List (List En)} {p i : Nat} (hp : p < L.length) (hi : i < (L.getD p []).length) : (L.getD p []).getD i default ∈ L.flatten :=
  List.mem_flatten.2 ⟨L.getD p [], getD_mem' hp, getD_mem' hi⟩
theorem has_came {l : List En} {L T : List (List En)} {e : En} (hL : wfL L) (hT : wfL T) (hc : Came l L T) (h : has L e) : has T e := by
  obtain ⟨x, hx, hm⟩ := h
  obtain ⟨p, hp, i, hi, rfl⟩ := flat_mem hx
  have h1 := hc.le p
  have h2 := hc.len
  obtain ⟨_, a1, a2⟩ := hL.en p hp i hi
  obtain ⟨_, b1, b2⟩ := hT.en p (by omega) i (by omega)
  exact ⟨_, flat_has (by omega) (by omega), mt_le hm (by omega) (by omega) (hc.less p i hi)⟩
theorem given_came {l m : List En} {L T : List (List En)} (hc : Came l L T) (hl : ∀ e ∈ l, e ∈ m) (h : ∀ x ∈ L.flatten, x ∈ m) : ∀ x ∈ T.flatten, x ∈ m := fun x hx => by
  obtain ⟨p, hp, i, hi, rfl⟩ := flat_mem hx
  have h2 := hc.len
  rcases hc.got p i hi with ⟨h3, e⟩ | h3
  · rw [e]; exact h _ (flat_has (by omega) h3)
  · exact hl _ h3
/-- A book to which messages were given. -/
structure Lst (o : Nat) (l : List En) (k : Nat) (S : DB) (added : List En) : Prop where
  up : Up k S
  len : S.2.logs.length = o
  holds : Holds (cont S.1) o S.2.logs S.2.at_
  has : ∀ e ∈ added, has S.2.logs e
  given : ∀ x ∈ S.2.logs.flatten, x ∈ l
theorem total_zero {o : Nat} : ∀ x ∈ (List.replicate o ([] : List En)).flatten, x ∈ ([] : List En) := fun x hx => by
  obtain ⟨q, hq, he⟩ := List.mem_flatten.1 hx
  rw [List.eq_of_mem_replicate hq] at he
  cases he
theorem Lst.new {o : Nat} (ho : 1 ≤ o ∧ o ≤ 8) (l : List En) : Lst o l 0 (new0 4096 o) [] :=
  ⟨Up.new ho, List.length_replicate, new0_holds (by decide) ho, fun e he => (by cases he), fun x hx => (by have := total_zero x hx; cases this)⟩
theorem one_holds {S : DB} {o : Nat} {e : En} (h : Holds (cont S.1) o S.2.logs S.2.at_) {T : DB} {n : Nat} (ht : one1 S e 0 = ⟨T, n, 0⟩) : Holds (cont T.1) o T.2.logs T.2.at_ := by
  unfold one1 at ht
  split at ht
  · rename_i hc
    split at ht
    · rename_i h0
      have : (putV S e).1 = T := congrArg Tk.S ht
      rw [← this]; exact h.put hc h0
    · rename_i h0
      exact absurd (congrArg Tk.err ht) h0
  · have : S = T := congrArg Tk.S ht
    rw [← this]; exact h
theorem Lst.take {o k : Nat} {l added : List En} {S : DB} (h : Lst o l k S added) {e : En} (he : e ∈ l) (hk : k ≤ 40) :
    ∃ T n, takeV S [e] = ⟨T, n, 0⟩ ∧ Lst o l (k + 1) T added ∧ ∀ p, (S.2.logs.getD p []).length ≤ (T.2.logs.getD p []).length := by
  obtain ⟨T, n, e1, e2, e3, _⟩ := h.up.take (l := [e]) (m := 1) (Nat.le_refl _) (Nat.le_refl _) (by omega)
  have e4 := takeV_one h.up.fine.up e
  rw [e1] at e4
  refine ⟨T, n, e1, ⟨e2, e3.len.trans h.len, one_holds h.holds e4.symm, fun x hx => has_came h.up.ok.wf e2.ok.wf e3 (h.has x hx), given_came e3 (fun x hx => by rw [List.mem_singleton.1 hx]; exact he) h.given⟩, e3.le⟩
theorem Up.put {k : Nat} {S : DB} (h : Up k S) {e : En} (hc : chg S.2.logs e) (hk : k ≤ 40) : (putV S e).2 = 0 ∧ Up (k + 1) (putV S e).1 ∧ (putV S e).1.2.logs = chgd S.2.logs e := by
  have h1 := h.at_
  have h2 := h.len
  have h3 := h.total
  obtain ⟨p1, p2, p3, p4, p5⟩ := put_fine h.fine (e := e) hc.1 (by omega)
  have h4 := total_chgd hc
  exact ⟨p1, ⟨(h.ok.put hc).mono (by omega), p2, by omega, by omega, by rw [p5]; omega⟩, p5⟩
theorem Up.mono {k m : Nat} {S : DB} (h : Up k S) (hk : k ≤ m) : Up m S := ⟨h.ok.mono (by omega), h.fine, h.len, Nat.le_trans h.at_ (by omega), Nat.le_trans h.total hk⟩
theorem Lst.add {o k : Nat} {l added : List En} {S : DB} (h : Lst o l k S added) {e : En} (he : e ∈ l) (hk : k ≤ 40) :
    (∃ T, addV S e = (T, 0) ∧ Lst o l (k + 1) T (added ++ [e]) ∧ ∀ p, (S.2.logs.getD p []).length ≤ (T.2.logs.getD p []).length) ∨ addV S e = (S, 92) := by
  unfold addV
  rw [if_neg h.up.fine.up]
  split
  · exact .inr rfl
  · rename_i h1
    have h1 := Classical.not_not.1 h1
    split
    · rename_i h2
      refine .inl ⟨S, rfl, ⟨h.up.mono (Nat.le_succ _), h.len, h.holds, fun x hx => ?_, h.given⟩, fun _ => Nat.le_refl _⟩
      rcases List.mem_append.1 hx with h3 | h3
      · exact h.has x h3
      · rw [List.mem_singleton.1 h3]
        refine ⟨_, flat_has h1.2 h2.1, ?_⟩
        rw [h2.2]; exact mt_self e
    · split
      · exact .inr rfl
      · rename_i h3
        have h3 := Classical.not_not.1 h3
        have hc : chg S.2.logs e := ⟨h1.1, h1.2, .inl h3⟩
        obtain ⟨p1, p2, p3⟩ := h.up.put hc hk
        have hcm : Came [e] S.2.logs (putV S e).1.2.logs := putV_came hc (List.Mem.head _)
        refine .inl ⟨(putV S e).1, Prod.ext rfl p1, ⟨p2, hcm.len.trans h.len, h.holds.put hc p1, fun x hx => ?_, given_came hcm (fun x hx => by rw [List.mem_singleton.1 hx]; exact he) h.given⟩, hcm.le⟩
        rcases List.mem_append.1 hx with h4 | h4
        · exact has_came h.up.ok.wf p2.ok.wf hcm (h.has x h4)
        · rw [List.mem_singleton.1 h4]
          have h5 := chgd_get (e := e) hc.2.1 e.office.toNat
          rw [if_pos rfl] at h5
          have h6 := put1_get (e := e) (.inl h3) e.no.toNat
          rw [if_pos rfl] at h6
          have h7 := put1_len (l := S.2.logs.getD e.office.toNat []) (e := e) (.inl h3)
          refine ⟨((chgd S.2.logs e).getD e.office.toNat []).getD e.no.toNat default, ?_, ?_⟩
          · rw [p3]
            exact flat_has (by rw [chgd_len]; exact hc.2.1) (by rw [h5, h7]; omega)
          · rw [h5, h6]; exact mt_self e
end Go.Proofs.Ytlbmlimaobkhpaa
