/- The plain law: loads through an end. -/
import Derived.Test.YtaahjlhfmkjefaaDoorAb
set_option linter.unusedVariables false
set_option linter.unusedSimpArgs false
set_option linter.unusedSectionVars false
/- The plain law: loads through an end, made entry by entry. -/
namespace Go.Proofs.YtaahjlhfmkjefaaDoor
/-- The least load that may follow, behind an entry. -/
def wUp (p : Pl) (w : List Sp) (l : List Int) (k : Nat) (v : Int) : Nat → Int
  | 0 => v
  | j + 1 => (meetS (endI p w l (k + j + 1)) (addS ⟨wUp p w l k v j, wUp p w l k v j⟩ (w.getD (k + j) default))).lo
/-- The least load that may stand ahead. -/
def wDn (p : Pl) (w : List Sp) (l : List Int) (k : Nat) (v : Int) : Nat → Int
  | 0 => v
  | j + 1 => (meetS (endI p w l (k - (j + 1))) (lessS ⟨wDn p w l k v j, wDn p w l k v j⟩ (w.getD (k - (j + 1)) default))).lo
def wI (p : Pl) (w : List Sp) (l : List Int) (k : Nat) (v : Int) (i : Nat) : Int := if k ≤ i then wUp p w l k v (i - k) else wDn p w l k v (k - i)
theorem wI_at {p : Pl} {w : List Sp} {l : List Int} {k : Nat} {v : Int} : wI p w l k v k = v := by
  unfold wI
  rw [if_pos (Nat.le_refl _), Nat.sub_self]
  rfl
theorem wI_up {p : Pl} {w : List Sp} {l : List Int} {k i : Nat} {v : Int} (h : k ≤ i) : wI p w l k v (i + 1) = (meetS (endI p w l (i + 1)) (addS ⟨wI p w l k v i, wI p w l k v i⟩ (w.getD i default))).lo := by
  unfold wI
  rw [if_pos (show k ≤ i + 1 by omega), if_pos h, show i + 1 - k = (i - k) + 1 by omega]
  show (meetS (endI p w l (k + (i - k) + 1)) _).lo = _
  rw [show k + (i - k) = i by omega]
theorem wI_dn {p : Pl} {w : List Sp} {l : List Int} {k i : Nat} {v : Int} (h : i < k) : wI p w l k v i = (meetS (endI p w l i) (lessS ⟨wI p w l k v (i + 1), wI p w l k v (i + 1)⟩ (w.getD i default))).lo := by
  have e : wI p w l k v (i + 1) = wDn p w l k v (k - (i + 1)) := by
    unfold wI
    by_cases h2 : k ≤ i + 1
    · rw [if_pos h2, show i + 1 - k = 0 by omega, show k - (i + 1) = 0 by omega]
      rfl
    · rw [if_neg h2]
  rw [e]
  unfold wI
  rw [if_neg (by omega), show k - i = (k - (i + 1)) + 1 by omega]
  show (meetS (endI p w l (k - (k - (i + 1) + 1))) _).lo = _
  rw [show k - (k - (i + 1) + 1) = i by omega]
theorem lo_in {x : Sp} (h : full x) : inS x.lo x := ⟨Int.le_refl _, h⟩
theorem in_meet {v : Int} {x y : Sp} (h : inS v (meetS x y)) : inS v x ∧ inS v y := by
  unfold inS meetS at *
  simp only at h
  omega
theorem in_add {v u : Int} {y : Sp} (h : inS v (addS ⟨u, u⟩ y)) : inS (v - u) y := by
  unfold inS addS at *
  simp only at h
  omega
theorem in_less {v u : Int} {y : Sp} (h : inS v (lessS ⟨u, u⟩ y)) : inS (u - v) y := by
  unfold inS lessS at *
  simp only at h
  omega
section
variable {p : Pl} {w : List Sp} {l : List Int} {k : Nat} {v : Int}
theorem up_in (hw : ∀ i, full (w.getD i default)) (ha : alive p w l) (hk : k < l.length) (hv : inS v (endI p w l k)) : ∀ j, k + j < l.length → inS (wI p w l k v (k + j)) (endI p w l (k + j))
  | 0, _ => by rw [Nat.add_zero, wI_at]; exact hv
  | j + 1, h => by
    have ih := up_in hw ha hk hv j (by omega)
    have := end_on hw (i := k + j) (by omega) (end_full hw ha (l.length - 1 - (k + j + 1)) (k + j + 1) (by omega)) ih
    rw [show k + (j + 1) = (k + j) + 1 by omega, wI_up (by omega)]
    exact (in_meet (lo_in this)).1
theorem dn_in (hw : ∀ i, full (w.getD i default)) (ha : alive p w l) (hk : k < l.length) (hv : inS v (endI p w l k)) : ∀ j, j ≤ k → inS (wI p w l k v (k - j)) (endI p w l (k - j))
  | 0, _ => by rw [Nat.sub_zero, wI_at]; exact hv
  | j + 1, h => by
    have ih := dn_in hw ha hk hv j (by omega)
    rw [show k - j = (k - (j + 1)) + 1 by omega] at ih
    have := end_back hw ha (i := k - (j + 1)) (by omega) ih
    rw [wI_dn (by omega)]
    exact (in_meet (lo_in this)).1
theorem wI_in (hw : ∀ i, full (w.getD i default)) (ha : alive p w l) (hk : k < l.length) (hv : inS v (endI p w l k)) {i : Nat} (hi : i < l.length) : inS (wI p w l k v i) (endI p w l i) := by
  by_cases h : k ≤ i
  · have := up_in hw ha hk hv (i - k) (by omega)
    rwa [show k + (i - k) = i by omega] at this
  · have := dn_in hw ha hk hv (k - i) (by omega)
    rwa [show k - (k - i) = i by omega] at this
theorem wI_step (hw : ∀ i, full (w.getD i default)) (ha : alive p w l) (hk : k < l.length) (hv : inS v (endI p w l k)) {i : Nat} (hi : i + 1 < l.length) : inS (wI p w l k v (i + 1) - wI p w l k v i) (w.getD i default) := by
  by_cases h : k ≤ i
  · have := end_on hw hi (end_full hw ha (l.length - 1 - (i + 1)) (i + 1) (by omega)) (wI_in hw ha hk hv (i := i) (by omega))
    rw [wI_up h]
    exact in_add (in_meet (lo_in this)).2
  · have := end_back hw ha hi (wI_in hw ha hk hv (i := i + 1) hi)
    rw [wI_dn (i := i) (by omega)]
    exact in_less (in_meet (lo_in this)).2
theorem wI_path (hw : ∀ i, full (w.getD i default)) (ha : alive p w l) (hk : k < l.length) (hv : inS v (endI p w l k)) : path p w l (wI p w l k v) :=
  end_path (fun _ hi => wI_in hw ha hk hv hi) fun _ hi => wI_step hw ha hk hv hi
end
/-! ### the list as it fills -/
def filW (f : Nat → Int) (n a b : Nat) : List Int := (List.range n).map fun i => if a ≤ i ∧ i < b then f i else 0
theorem filW_len {f : Nat → Int} {n a b : Nat} : (filW f n a b).length = n := by simp [filW]
theorem filW_get {f : Nat → Int} {n a b i : Nat} (hi : i < n) : (filW f n a b).getD i 0 = if a ≤ i ∧ i < b then f i else 0 := by
  unfold filW
  rw [List.getD_eq_getElem?_getD, List.getElem?_map, List.getElem?_range hi]
  rfl
theorem filW_set {f : Nat → Int} {n a b a' b' k : Nat} (h : ∀ i < n, i ≠ k → ((a ≤ i ∧ i < b) ↔ (a' ≤ i ∧ i < b'))) (hk : a' ≤ k ∧ k < b') : (filW f n a b).set k (f k) = filW f n a' b' := by
  apply List.ext_getElem?
  intro i
  by_cases hi : i < n
  · unfold filW
    rw [List.getElem?_set]
    by_cases e : k = i
    · subst e
      rw [if_pos rfl, if_pos (by simpa using hi), List.getElem?_map, List.getElem?_range hi]
      simp [hk]
    · rw [if_neg e, List.getElem?_map, List.getElem?_map, List.getElem?_range hi]
      simp only [Option.map_some, h i hi (Ne.symm e)]
  · rw [List.getElem?_eq_none (by simp [filW]; omega), List.getElem?_eq_none (by simp [filW]; omega)]
theorem filW_zero {f : Nat → Int} {n : Nat} {a b : Nat} (h : ∀ i < n, ¬ (a ≤ i ∧ i < b)) : filW f n a b = List.replicate n 0 := by
  apply List.ext_getElem?
  intro i
  by_cases hi : i < n
  · unfold filW
    rw [List.getElem?_map, List.getElem?_range hi, List.getElem?_replicate, if_pos hi]
    simp [h i hi]
  · rw [List.getElem?_eq_none (by simp [filW]; omega), List.getElem?_eq_none (by simp; omega)]
end Go.Proofs.YtaahjlhfmkjefaaDoor
