/- Disks after a fall. -/
import Derived.Test.YtlbmlimaobkhpaaRe
import Derived.Test.YtlbmlimaobkhpaaRd
import Derived.Test.YtlbmlimaobkhpaaGc
set_option linter.unusedVariables false
set_option linter.unusedSimpArgs false
set_option linter.unusedSectionVars false
/- Disks after a fall: what is stored of the writes that survive. No program in sight. -/
namespace Go.Proofs.Ytlbmlimaobkhpaa
set_option linter.unusedSimpArgs false
set_option linter.unusedVariables false
namespace Dk
theorem tear_snoc (w : Nat × Str) (k : UInt8) : ∀ (l : List ((Nat × Str) × UInt8)) (safe : List Str), tear safe (l ++ [(w, k)]) = (settle safe (l.map Prod.fst)).set w.1 (w.2.take (min k.toNat 64) ++ ((settle safe (l.map Prod.fst)).getD w.1 []).drop (min k.toNat 64))
  | [], _ => rfl
  | [(v, j)], safe => rfl
  | (v, j) :: x :: r, safe => by
    have := tear_snoc w k (x :: r) (safe.set v.1 v.2)
    exact this
def KI (ws : List (Nat × Str)) (keep : Str) (i : Nat) : List ((Nat × Str) × UInt8) := ((ws.zip keep).take i).filter fun p => p.2 != 0
theorem KI_succ {ws : List (Nat × Str)} {keep : Str} {i : Nat} (h : i < ws.length) : KI ws keep (i + 1) = if i < keep.length ∧ keep.getD i 0 ≠ 0 then KI ws keep i ++ [(ws.getD i default, keep.getD i 0)] else KI ws keep i := by
  unfold KI
  by_cases hk : i < keep.length
  · have hz : i < (ws.zip keep).length := by rw [List.length_zip]; omega
    rw [List.take_succ_eq_append_getElem hz, List.filter_append, List.getElem_zip]
    have e1 : ws.getD i default = ws[i] := by rw [List.getD_eq_getElem?_getD, List.getElem?_eq_getElem h]; rfl
    have e2 : keep.getD i 0 = keep[i] := by rw [List.getD_eq_getElem?_getD, List.getElem?_eq_getElem hk]; rfl
    rw [e1, e2]
    by_cases h0 : keep[i] = 0
    · simp [h0]
    · simp [h0, hk]
  · have hz : (ws.zip keep).length ≤ i := by rw [List.length_zip]; omega
    rw [List.take_of_length_le (by omega), List.take_of_length_le hz, if_neg (fun h => hk h.1)]
theorem KI_all {ws : List (Nat × Str)} {keep : Str} {i : Nat} (h : min ws.length keep.length ≤ i) : KI ws keep i = kept ws keep := by
  unfold KI kept
  rw [List.take_of_length_le (by rw [List.length_zip]; exact h)]
theorem KI_mem {ws : List (Nat × Str)} {keep : Str} {i : Nat} {p : (Nat × Str) × UInt8} (h : p ∈ KI ws keep i) : p.1 ∈ ws :=
  (List.of_mem_zip (a := p.1) (b := p.2) (List.mem_of_mem_take (List.mem_filter.1 h).1)).1
def tl (l : List ((Nat × Str) × UInt8)) : Nat := match l.getLast? with | some x => min x.2.toNat 64 | none => 0
/-- The last write of which something is kept; -1: none. -/
def lastI (keep : Str) : Nat → Int
  | 0 => -1
  | i + 1 => if keep.getD i 0 ≠ 0 then i else lastI keep i
theorem lastI_lt (keep : Str) : ∀ n, lastI keep n < n ∧ -1 ≤ lastI keep n
  | 0 => ⟨by simp [lastI], by simp [lastI]⟩
  | n + 1 => by
    have := lastI_lt keep n
    unfold lastI
    split <;> omega
theorem KI_last {ws : List (Nat × Str)} {keep : Str} : ∀ n, n ≤ ws.length → n ≤ keep.length → KI ws keep n = if lastI keep n = -1 then [] else KI ws keep (lastI keep n).toNat ++ [(ws.getD (lastI keep n).toNat default, keep.getD (lastI keep n).toNat 0)]
  | 0, _, _ => by simp [KI, lastI]
  | n + 1, h1, h2 => by
    rw [KI_succ (by omega)]
    by_cases h0 : keep.getD n 0 = 0
    · rw [if_neg (fun h => h.2 h0), KI_last n (by omega) (by omega)]
      have : lastI keep (n + 1) = lastI keep n := by rw [lastI, if_neg (by simpa using h0)]
      rw [this]
    · have e : lastI keep (n + 1) = n := by rw [lastI, if_pos h0]
      rw [if_pos ⟨by omega, h0⟩, e, if_neg (by omega), Int.toNat_natCast]
/-- The sectors behind so many rounds. -/
def sf (d : Dk) (keep : Str) (L : Int) (i : Nat) : List Str := if (i : Int) ≤ L then settle d.safe ((KI d.waits keep i).map Prod.fst) else tear d.safe (kept d.waits keep)
theorem sf_zero {d : Dk} {keep : Str} : sf d keep (lastI keep (min d.waits.length keep.length)) 0 = d.safe := by
  unfold sf
  split
  · rfl
  · rename_i h
    rw [← KI_all (Nat.le_refl _), KI_last _ (Nat.min_le_left ..) (Nat.min_le_right ..), if_pos]
    · rfl
    · have := (lastI_lt keep (min d.waits.length keep.length)).2
      omega
theorem sf_len {d : Dk} (hd : d.ok) {keep : Str} {L : Int} {i : Nat} (h : (i : Int) ≤ L) : (∀ x ∈ sf d keep L i, x.length = 64) ∧ (sf d keep L i).length = d.safe.length := by
  unfold sf
  rw [if_pos h]
  refine ⟨settle_ok _ _ hd.safe fun w hw => ?_, settle_length ..⟩
  obtain ⟨p, hp, rfl⟩ := List.mem_map.1 hw
  exact (hd.waits _ (KI_mem hp)).2
theorem set_getD {l : List Str} {i : Nat} : l.set i (l.getD i []) = l := by
  apply List.ext_getElem?
  intro j
  rw [List.getElem?_set, List.getD_eq_getElem?_getD]
  split
  · rename_i e; subst e
    split
    · rename_i h; rw [List.getElem?_eq_getElem h]; rfl
    · rename_i h; rw [List.getElem?_eq_none (by omega)]
  · rfl
theorem sf_step {d : Dk} (hd : d.ok) {keep : Str} {i K : Nat} (h : (i : Int) ≤ lastI keep (min d.waits.length keep.length))
    (hK : K = if (0 < (keep.getD i 0).toNat ∧ (i : Int) < lastI keep (min d.waits.length keep.length)) ∨ 64 < (keep.getD i 0).toNat then 64 else (keep.getD i 0).toNat) :
    (sf d keep (lastI keep (min d.waits.length keep.length)) i).set (d.waits.getD i default).1 ((d.waits.getD i default).2.take K ++ ((sf d keep (lastI keep (min d.waits.length keep.length)) i).getD (d.waits.getD i default).1 []).drop K) = sf d keep (lastI keep (min d.waits.length keep.length)) (i + 1) := by
  have hlt := lastI_lt keep (min d.waits.length keep.length)
  have hk1 := KI_last (ws := d.waits) (keep := keep) _ (Nat.min_le_left ..) (Nat.min_le_right ..)
  rw [KI_all (Nat.le_refl _)] at hk1
  have hsl := sf_len hd (keep := keep) h
  have hiw : i < d.waits.length := by omega
  have hw := hd.waits _ (getD_mem (d := default) hiw)
  have hlast : ∀ hne : lastI keep (min d.waits.length keep.length) ≠ -1, keep.getD (lastI keep (min d.waits.length keep.length)).toNat 0 ≠ 0 := by
    have : ∀ n, lastI keep n ≠ -1 → keep.getD (lastI keep n).toNat 0 ≠ 0 := by
      intro n
      induction n with
      | zero => intro h; exact absurd rfl h
      | succ n ih =>
        unfold lastI
        split
        · rename_i h; intro _; rw [Int.toNat_natCast]; exact h
        · exact ih
    exact this _
  generalize hL : lastI keep (min d.waits.length keep.length) = L at *
  rw [if_neg (by omega)] at hk1
  have hs : sf d keep L i = settle d.safe ((KI d.waits keep i).map Prod.fst) := if_pos h
  by_cases hi : (i : Int) < L
  · have hs1 : sf d keep L (i + 1) = settle d.safe ((KI d.waits keep (i + 1)).map Prod.fst) := if_pos (by omega)
    rw [hs1, KI_succ hiw]
    by_cases h0 : keep.getD i 0 = 0
    · rw [if_neg (fun h => h.2 h0), ← hs]
      rw [h0] at hK
      have : K = 0 := by rw [hK, if_neg (fun h => h.elim (fun h => absurd h.1 (by decide)) (fun h => absurd h (by decide)))]; rfl
      rw [this, List.take_zero, List.drop_zero, List.nil_append, set_getD]
    · have hp : 0 < (keep.getD i 0).toNat := Nat.pos_of_ne_zero fun e => h0 (UInt8.toNat_inj.1 e)
      rw [if_pos ⟨by omega, h0⟩, List.map_append, settle_app, ← hs]
      rw [if_pos (.inl ⟨hp, hi⟩)] at hK
      have hl : ((sf d keep L i).getD (d.waits.getD i default).1 []).length = 64 := hsl.1 _ (getD_mem (by rw [hsl.2]; exact hw.1))
      rw [hK, List.take_of_length_le (by omega), List.drop_of_length_le (by omega), List.append_nil]
      rfl
  · have e : L = i := by omega
    have hs1 : sf d keep L (i + 1) = tear d.safe (kept d.waits keep) := if_neg (by omega)
    have : K = min (keep.getD i 0).toNat 64 := by rw [hK]; split <;> omega
    have e2 : L.toNat = i := by omega
    rw [hs1, hk1, e2, tear_snoc, ← hs, this]
theorem sf_end {d : Dk} {keep : Str} {L : Int} {i : Nat} (h : L < i) : sf d keep L i = tear d.safe (kept d.waits keep) := if_neg (by omega)
theorem tear_len : ∀ (l : List ((Nat × Str) × UInt8)) (s : List Str), (tear s l).length = s.length
  | [], _ => rfl
  | [(w, k)], s => by simp [tear]
  | (w, k) :: x :: r, s => by
    show (tear (s.set w.1 w.2) (x :: r)).length = _
    rw [tear_len (x :: r), List.length_set]
theorem tear_ok : ∀ (l : List ((Nat × Str) × UInt8)) (s : List Str), (∀ x ∈ s, x.length = 64) → (∀ p ∈ l, p.1.1 < s.length ∧ p.1.2.length = 64) → ∀ x ∈ tear s l, x.length = 64
  | [], _, h, _ => h
  | [(w, k)], s, h, hl => by
    intro x hx
    have hw := hl _ (List.Mem.head _)
    have hg := h _ (getD_mem (d := []) hw.1)
    rcases List.mem_or_eq_of_mem_set hx with h1 | rfl
    · exact h _ h1
    · rw [List.length_append, List.length_take, List.length_drop]; simp only at hw hg; omega
  | (w, k) :: x :: r, s, h, hl => by
    have hw := hl _ (List.Mem.head _)
    refine tear_ok (x :: r) (s.set w.1 w.2) (fun y hy => ?_) (fun p hp => ?_)
    · rcases List.mem_or_eq_of_mem_set hy with h1 | rfl
      · exact h _ h1
      · exact hw.2
    · rw [List.length_set]; exact hl _ (List.mem_cons_of_mem _ hp)
end Dk
end Go.Proofs.Ytlbmlimaobkhpaa
/- Disks after a fall: the program. -/
namespace Go.Proofs.Ytlbmlimaobkhpaa
open Go Go.Gv
set_option maxRecDepth 100000
set_option maxHeartbeats 4000000
set_option linter.unusedSimpArgs false
set_option linter.unusedVariables false
end Go.Proofs.Ytlbmlimaobkhpaa
