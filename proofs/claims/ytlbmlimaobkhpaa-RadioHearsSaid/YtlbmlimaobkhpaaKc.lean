/- Books whose power goes off: the plain law. -/
import Derived.Test.YtlbmlimaobkhpaaEa
import Derived.Test.YtlbmlimaobkhpaaKb
set_option linter.unusedVariables false
set_option linter.unusedSimpArgs false
set_option linter.unusedSectionVars false
/- RadioCrash: the plain law. No program in sight. -/
namespace Go.Proofs.Ytlbmlimaobkhpaa
set_option linter.unusedSimpArgs false
set_option linter.unusedVariables false
theorem okB.restart {B : Nat} {d : Dk} (h : d.okB B) (keep : Str) : (d.restart keep).okB (B + 1) := by
  have hf := h.few.2
  refine ⟨Dk.tear_ok _ _ h.safe fun p hp => h.waits _ (kept_mem hp), fun w hw => (by cases hw), by show (Dk.tear _ _).length ≤ _; rw [tear_lenC]; exact h.size, Nat.zero_le _, ⟨Nat.zero_le _, ?_⟩⟩
  show (if d.off then d.falls else d.falls + 1) ≤ _
  split <;> omega
/-- A book on a disk whose power may go off. -/
structure Cra (o k : Nat) (n : Int) (S : DB) : Prop where
  ok : okS (20 + 20 * k) S
  on : S.1.off = false
  falls : S.2.falls = S.1.falls
  waits : S.1.waits = []
  holds : Holds (cont S.1) o S.2.logs S.2.at_
  armed : S.1.armed = 0 ∨ 0 < n
theorem Cra.new {N o : Nat} (n : Int) (hN : 1 ≤ N ∧ N ≤ 4096) (ho : 1 ≤ o ∧ o ≤ 8) : Cra o 0 n (new0 N o) :=
  ⟨new0_ok hN ho.2, (new0_fine hN.1).d.on, (new0_fine hN.1).falls, new0_waits hN.1, new0_holds hN.1 ho, .inl (new0_fine hN.1).d.armed⟩
theorem Cra.up {o k : Nat} {n : Int} {S : DB} (h : Cra o k n S) : ¬ downV S := fun hd => hd h.falls
theorem strike_on {d : Dk} (h : d.strike.2 = false) : d.strike.1.off = d.off ∧ d.strike.1.falls = d.falls ∧ (d.armed = 0 → d.strike.1.armed = 0) := by
  unfold Dk.strike at h ⊢
  split
  · exact ⟨rfl, rfl, id⟩
  · rename_i h1
    rw [if_neg h1] at h
    split
    · rename_i h2; rw [if_pos h2] at h; cases h
    · exact ⟨rfl, rfl, fun h => absurd h h1⟩
theorem op_on {d : Dk} : ∀ {o : Dk.Op}, (d.op o).2 = 0 → (d.op o).1.off = d.off ∧ (d.op o).1.falls = d.falls ∧ (d.armed = 0 → (d.op o).1.armed = 0)
  | some (i, s), h => by
    have h : (d.write i s).2 = 0 := h
    show (d.write i s).1.off = _ ∧ (d.write i s).1.falls = _ ∧ (_ → (d.write i s).1.armed = 0)
    unfold Dk.write at h ⊢
    split
    · exact ⟨rfl, rfl, id⟩
    · rename_i h1
      rw [if_neg h1] at h
      split
      · exact ⟨rfl, rfl, id⟩
      · rename_i h2
        rw [if_neg h2] at h
        have hs : (Dk.strike { d with waits := d.waits ++ [((i : Int).toNat, s)] }).2 = false := by
          cases hc : (Dk.strike { d with waits := d.waits ++ [((i : Int).toNat, s)] }).2 with
          | false => rfl
          | true =>
            have h3 : (if (Dk.strike { d with waits := d.waits ++ [((i : Int).toNat, s)] }).2 then (93 : Int) else 0) = 0 := h
            rw [hc] at h3; cases h3
        exact strike_on hs
  | none, h => by
    have h : d.sync.2 = 0 := h
    show d.sync.1.off = _ ∧ d.sync.1.falls = _ ∧ (_ → d.sync.1.armed = 0)
    unfold Dk.sync at h ⊢
    split
    · exact ⟨rfl, rfl, id⟩
    · rename_i h1
      rw [if_neg h1] at h
      split
      · rename_i h2; rw [if_pos h2] at h; cases h
      · rename_i h2
        exact strike_on (by simpa using h2)
theorem ops_on : ∀ (l : List Dk.Op) {d : Dk}, (d.ops l).2 = 0 → (d.ops l).1.off = d.off ∧ (d.ops l).1.falls = d.falls ∧ (d.armed = 0 → (d.ops l).1.armed = 0)
  | [], _, _ => ⟨rfl, rfl, id⟩
  | o :: l, d, h => by
    have h0 : (d.op o).2 = 0 := by
      rcases Decidable.em ((d.op o).2 = 0) with h1 | h1
      · exact h1
      · rw [Dk.ops_cons1 h1] at h; exact h
    rw [Dk.ops_cons0 h0] at h ⊢
    obtain ⟨a1, a2, a3⟩ := op_on h0
    obtain ⟨b1, b2, b3⟩ := ops_on l h
    exact ⟨b1.trans a1, b2.trans a2, fun hx => b3 (a3 hx)⟩
theorem keep_on {d : Dk} {a : Nat} {p : Str} (h : (keepV d a p).2 = 0) : (keepV d a p).1.off = d.off ∧ (keepV d a p).1.falls = d.falls ∧ (d.armed = 0 → (keepV d a p).1.armed = 0) := by
  have h1 := keepV_full h
  unfold keepV at h ⊢
  rw [if_neg (by omega)] at h ⊢
  exact ops_on _ h
theorem putV_keep {S : DB} {e : En} (h : (putV S e).2 = 0) : (keepV S.1 S.2.at_ (payE e)).2 = 0 := by
  rcases Decidable.em ((keepV S.1 S.2.at_ (payE e)).2 = 0) with h1 | h1
  · exact h1
  · unfold putV at h; rw [if_neg h1] at h; exact h
theorem Cra.put {o k : Nat} {n : Int} {S : DB} (h : Cra o k n S) {e : En} (hc : chg S.2.logs e) (h0 : (putV S e).2 = 0) : Cra o (k + 1) n (putV S e).1 ∧ (putV S e).1.2.logs = chgd S.2.logs e := by
  have hk := putV_keep h0
  obtain ⟨a1, a2, a3⟩ := keep_on hk
  have h1 := (h.ok.put hc).mono (show 20 + 20 * k + 20 ≤ 20 + 20 * (k + 1) by omega)
  have h2 := put_waits h0
  have h3 := h.holds.put hc h0
  have h4 := putV_logs h0
  rw [putV_full hk] at h1 h2 h3 h4 ⊢
  refine ⟨⟨h1, a1.trans h.on, h.falls.trans a2.symm, h2, h3, ?_⟩, h4⟩
  rcases h.armed with h5 | h5
  · exact .inl (a3 h5)
  · exact .inr h5
theorem Cra.next {o k : Nat} {n : Int} {S : DB} (h : Cra o k n S) : Cra o (k + 1) n S := ⟨h.ok.mono (by omega), h.on, h.falls, h.waits, h.holds, h.armed⟩
/-- One message is taken, by a book whose power may go off and by another one that contains the same. -/
theorem Cra.take {o k j : Nat} {n : Int} {S Sf : DB} (h : Cra o k n S) (hf : Up j Sf) (hj : j ≤ 40) (hl : Sf.2.logs = S.2.logs) (e : En) :
    (∃ T Tf m, takeV S [e] = ⟨T, m, 0⟩ ∧ takeV Sf [e] = ⟨Tf, m, 0⟩ ∧ Cra o (k + 1) n T ∧ Up (j + 1) Tf ∧ Tf.2.logs = T.2.logs) ∨
    (∃ Tf m, takeV S [e] = ⟨S, 0, 94⟩ ∧ takeV Sf [e] = ⟨Tf, m, 0⟩ ∧ Up (j + 1) Tf) ∨
    ∃ T Tf m, takeV S [e] = ⟨T, 0, 93⟩ ∧ takeV Sf [e] = ⟨Tf, m, 0⟩ ∧ Up (j + 1) Tf ∧ 0 < n ∧ T.2 = S.2 ∧ okS (20 + 20 * (k + 1)) T ∧
      ∀ keep, ∃ L a, Holds (cont (T.1.restart keep)) o L a ∧ (L = S.2.logs ∨ L = Tf.2.logs) := by
  have e1 := takeV_one h.up e
  have e2 := takeV_one hf.fine.up e
  by_cases hc : chg S.2.logs e
  · have hcf : chg Sf.2.logs e := by rw [hl]; exact hc
    obtain ⟨p1, p2, p3⟩ := hf.put hcf hj
    have e3 : takeV Sf [e] = ⟨(putV Sf e).1, 1, 0⟩ := by rw [e2]; unfold one1; rw [if_pos hcf, if_pos p1]
    by_cases h0 : (putV S e).2 = 0
    · obtain ⟨q1, q2⟩ := h.put hc h0
      left
      refine ⟨(putV S e).1, (putV Sf e).1, 1, ?_, e3, q1, p2, by rw [p3, q2, hl]⟩
      rw [e1]; unfold one1; rw [if_pos hc, if_pos h0]
    · have e4 : takeV S [e] = ⟨(putV S e).1, 0, (putV S e).2⟩ := by rw [e1]; unfold one1; rw [if_pos hc, if_neg h0]
      obtain ⟨h1, h2⟩ := (put_in S e).resolve_left h0
      rcases h1 with h1 | ⟨h1, h3⟩
      · right; right
        refine ⟨(putV S e).1, (putV Sf e).1, 1, by rw [e4, h1], e3, p2, ?_, h2, (h.ok.put hc).mono (by omega), fun keep => ?_⟩
        · rcases h.armed with h4 | h4
          · exfalso
            have hq : S.1.quiet := ⟨h.on, h4⟩
            by_cases hr : S.2.at_ + secN (payE e).length ≤ S.1.safe.length
            · exact h0 (by rw [putV_full (keep_fine hq hr).1])
            · have h5 : keepV S.1 S.2.at_ (payE e) = (S.1, 94) := if_pos (by omega)
              unfold putV at h1
              rw [h5, if_neg (show ¬ ((94 : Int) = 0) by decide)] at h1
              have h6 : (94 : Int) = 93 := h1
              exact absurd h6 (by decide)
          · exact h4
        · rcases h.holds.crash h.ok h.waits hc h0 keep with h4 | h4
          · exact ⟨_, _, h4, .inl rfl⟩
          · exact ⟨_, _, h4, .inr (by rw [p3, hl])⟩
      · right; left
        have h4 : (putV S e).1 = S := Prod.ext h3 h2
        exact ⟨(putV Sf e).1, 1, by rw [e4, h1, h4], e3, p2⟩
  · have hcf : ¬ chg Sf.2.logs e := by rw [hl]; exact hc
    left
    refine ⟨S, Sf, 0, ?_, ?_, h.next, hf.mono (Nat.le_succ _), hl⟩
    · rw [e1]; unfold one1; rw [if_neg hc]
    · rw [e2]; unfold one1; rw [if_neg hcf]
theorem Chain.wf {C : List Str} {a b : Nat} {L M : List (List En)} (h : Chain C a L b M) : wfL L → wfL M := by
  induction h with
  | nil => exact id
  | cons e _ hc _ ih => exact fun hw => ih (hw.chgd hc)
theorem Holds.wf {C : List Str} {o : Nat} {L : List (List En)} {a : Nat} (h : Holds C o L a) : wfL L := h.chain.wf (wfL.nil h.few.2)
theorem Up.same {j : Nat} {Sb Sf Tf : DB} {m : Nat} {e : En} (hb : Up j Sb) (hf : Up j Sf) (hj : j ≤ 40) (hl : Sb.2.logs = Sf.2.logs) (ht : takeV Sf [e] = ⟨Tf, m, 0⟩) :
    ∃ Tb, takeV Sb [e] = ⟨Tb, m, 0⟩ ∧ Up (j + 1) Tb ∧ Tb.2.logs = Tf.2.logs := by
  have e1 := takeV_one hb.fine.up e
  have e2 := takeV_one hf.fine.up e
  rw [ht] at e2
  unfold one1 at e1 e2
  by_cases hc : chg Sf.2.logs e
  · have hcb : chg Sb.2.logs e := by rw [hl]; exact hc
    obtain ⟨p1, p2, p3⟩ := hb.put hcb hj
    obtain ⟨q1, q2, q3⟩ := hf.put hc hj
    rw [if_pos hc, if_pos q1] at e2
    rw [if_pos hcb, if_pos p1] at e1
    injection e2 with e3 e4 _
    subst e3 e4
    exact ⟨(putV Sb e).1, e1, p2, by rw [p3, q3, hl]⟩
  · have hcb : ¬ chg Sb.2.logs e := by rw [hl]; exact hc
    rw [if_neg hc] at e2
    rw [if_neg hcb] at e1
    injection e2 with e3 e4 _
    subst e3 e4
    exact ⟨Sb, e1, hb.mono (Nat.le_succ _), hl⟩
end Go.Proofs.Ytlbmlimaobkhpaa
