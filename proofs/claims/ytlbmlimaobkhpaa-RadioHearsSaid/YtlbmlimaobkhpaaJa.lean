/- Messages put together: the plain law. -/
import Derived.Test.YtlbmlimaobkhpaaRf
import Derived.Test.YtlbmlimaobkhpaaKa
import Derived.Test.YtlbmlimaobkhpaaGf
set_option linter.unusedVariables false
set_option linter.unusedSimpArgs false
set_option linter.unusedSectionVars false
/- Messages put together from frames: by maps, sorted; by the reference's search: the same. -/
namespace Go.Proofs.Ytlbmlimaobkhpaa
open Go Go.Gv
set_option maxRecDepth 100000
set_option maxHeartbeats 4000000
set_option linter.unusedSimpArgs false
set_option linter.unusedVariables false
/-- Office, number, number of parts. -/
abbrev Ky := Int × Int × Int
def kyF (f : Fr) : Ky := (f.office, f.no, f.parts)
abbrev Bm := List (Int × Str)
abbrev Gm := List (Ky × Bm)
/-- The lesser of what was there and what comes. -/
def less1 (o : Option Str) (b : Str) : Option Str := match o with
  | some c => if Op.bytesLess b c = true then some b else some c
  | none => some b
def bIns (m : Bm) (f : Fr) : Bm := match aget m f.part with
  | some old => if Op.bytesLess f.body old = true then aput m f.part f.body else m
  | none => aput m f.part f.body
def gIns (m : Gm) (f : Fr) : Gm := aput m (kyF f) (bIns ((aget m (kyF f)).getD []) f)
def gMap (l : List Fr) : Gm := l.foldl gIns []
/-- The least body of a part. -/
def leastB (l : List Fr) (k : Ky) (p : Int) : Option Str := l.foldl (fun acc f => if kyF f = k ∧ f.part = p then less1 acc f.body else acc) none
def lookG (m : Gm) (k : Ky) (p : Int) : Option Str := aget ((aget m k).getD []) p
theorem look_bIns (m : Bm) (f : Fr) (p : Int) : aget (bIns m f) p = if f.part = p then less1 (aget m p) f.body else aget m p := by
  unfold bIns
  by_cases hp : f.part = p
  · rw [if_pos hp, hp]
    cases h : aget m p with
    | none => simp only [less1]; rw [aget_put, if_pos rfl]
    | some c =>
      simp only [less1]
      split
      · rw [aget_put, if_pos rfl]
      · exact h
  · rw [if_neg hp]
    cases h : aget m f.part with
    | none => simp only; rw [aget_put, if_neg hp]
    | some c =>
      simp only
      split
      · rw [aget_put, if_neg hp]
      · rfl
theorem look_gIns (m : Gm) (f : Fr) (k : Ky) (p : Int) : lookG (gIns m f) k p = if kyF f = k ∧ f.part = p then less1 (lookG m k p) f.body else lookG m k p := by
  unfold lookG gIns
  rw [aget_put]
  by_cases hk : kyF f = k
  · rw [if_pos hk, Option.getD_some, look_bIns, hk]
    by_cases hp : f.part = p
    · rw [if_pos hp, if_pos ⟨rfl, hp⟩]
    · rw [if_neg hp, if_neg (fun e => hp e.2)]
  · rw [if_neg hk, if_neg (fun e => hk e.1)]
theorem look_fold (k : Ky) (p : Int) : ∀ (l : List Fr) (m : Gm), lookG (l.foldl gIns m) k p = l.foldl (fun acc f => if kyF f = k ∧ f.part = p then less1 acc f.body else acc) (lookG m k p)
  | [], _ => rfl
  | f :: l, m => by
    rw [List.foldl_cons, List.foldl_cons, look_fold k p l (gIns m f), look_gIns]
theorem look_gMap (l : List Fr) (k : Ky) (p : Int) : lookG (gMap l) k p = leastB l k p := look_fold k p l []
theorem nodup_sub {α : Type} [DecidableEq α] : ∀ (l1 l2 : List α), l1.Nodup → (∀ x ∈ l1, x ∈ l2) → l1.length ≤ l2.length
  | [], _, _, _ => Nat.zero_le _
  | x :: l1, l2, hd, h => by
    have hx := h x List.mem_cons_self
    have h1 := nodup_sub l1 (l2.erase x) (List.nodup_cons.1 hd).2 fun y hy => by
      have hne : y ≠ x := fun e => (List.nodup_cons.1 hd).1 (e ▸ hy)
      exact (List.mem_erase_of_ne hne).2 (h y (List.mem_cons_of_mem _ hy))
    rw [List.length_erase_of_mem hx] at h1
    have h2 := List.length_pos_of_mem hx
    rw [List.length_cons]; omega
theorem nodup_le : ∀ (n : Nat) (l : List Int), l.Nodup → (∀ x ∈ l, 0 ≤ x ∧ x < n) → l.length ≤ n
  | 0, l, _, h => by
    cases l with
    | nil => exact Nat.le_refl _
    | cons x l => have := h x List.mem_cons_self; omega
  | n + 1, l, hd, h => by
    by_cases hn : (n : Int) ∈ l
    · have h1 := nodup_le n (l.erase n) (hd.erase _) fun x hx => by
        have hx2 := (hd.mem_erase_iff).1 hx
        have := h x hx2.2
        have := hx2.1
        omega
      rw [List.length_erase_of_mem hn] at h1
      omega
    · have h1 := nodup_le n l hd fun x hx => by
        have := h x hx
        have : x ≠ n := fun e => hn (e ▸ hx)
        omega
      omega
theorem nodup_all {n : Nat} {l : List Int} (hd : l.Nodup) (h : ∀ x ∈ l, 0 ≤ x ∧ x < n) (hl : n ≤ l.length) (i : Int) (h0 : 0 ≤ i) (hi : i < n) : i ∈ l := by
  by_cases hm : i ∈ l
  · exact hm
  · exfalso
    have := nodup_le n (i :: l) (List.nodup_cons.2 ⟨hm, hd⟩) fun x hx => by
      rcases List.mem_cons.1 hx with rfl | hx
      · exact ⟨h0, hi⟩
      · exact h x hx
    rw [List.length_cons] at this
    omega
theorem aget_key {κ α : Type} [DecidableEq κ] {l : List (κ × α)} {k : κ} : (aget l k).isSome = true ↔ k ∈ l.map Prod.fst := by
  induction l with
  | nil => simp [aget]
  | cons x l ih =>
    obtain ⟨a, y⟩ := x
    by_cases h : a = k
    · subst h; simp [aget]
    · have e : aget ((a, y) :: l) k = aget l k := by unfold aget; rw [List.find?_cons_of_neg (by simpa using h)]
      rw [e, ih, List.map_cons, List.mem_cons]
      exact ⟨.inr, fun e => e.resolve_left fun e => h e.symm⟩
/-- All parts in a row, or nothing. -/
def joinT (get : Int → Option Str) : Nat → Option Str
  | 0 => some []
  | k + 1 => (joinT get k).bind fun s => (get k).map fun b => s ++ b
/-- What the program puts together. -/
def joinP (get : Int → Option Str) (n : Nat) : Str := (List.range n).flatMap fun (i : Nat) => (get (i : Int)).getD []
theorem join_some {get : Int → Option Str} : ∀ (n : Nat), (∀ i < n, (get ((i : Nat) : Int)).isSome = true) → joinT get n = some (joinP get n)
  | 0, _ => rfl
  | n + 1, h => by
    obtain ⟨b, hb⟩ := Option.isSome_iff_exists.1 (h n (Nat.lt_succ_self n))
    rw [joinT, join_some n fun i hi => h i (by omega), hb]
    unfold joinP
    rw [List.range_succ, List.flatMap_append]
    simp [hb]
theorem join_all {get : Int → Option Str} : ∀ (n : Nat) {s : Str}, joinT get n = some s → ∀ i < n, (get ((i : Nat) : Int)).isSome = true
  | 0, _, _, i, hi => by omega
  | n + 1, s, h, i, hi => by
    rw [joinT] at h
    obtain ⟨t, h1, h2⟩ := Option.bind_eq_some_iff.1 h
    obtain ⟨b, h3, _⟩ := Option.map_eq_some_iff.1 h2
    by_cases e : i = n
    · subst e; rw [h3]; rfl
    · exact join_all n h1 i (by omega)
/-- The message of the frames of one office, number, number of parts. -/
def wholeT (l : List Fr) (o n p : Int) : Option Str := joinT (leastB l (o, n, p)) p.toNat
/-- What holds of the program's maps. -/
structure GmOk (m : Gm) : Prop where
  keys : akeys m
  inner : ∀ k b, aget m k = some b → akeys b ∧ (∀ x ∈ b.map Prod.fst, 0 ≤ x ∧ x < k.2.2) ∧ 0 < b.length ∧ (0 ≤ k.1 ∧ k.1 < 8) ∧ (0 ≤ k.2.1 ∧ k.2.1 < 64) ∧ 1 ≤ k.2.2 ∧ k.2.2 ≤ 32
theorem bIns_keys {m : Bm} {f : Fr} (h : akeys m) : akeys (bIns m f) := by
  unfold bIns
  split
  · split
    · exact h.put _ _
    · exact h
  · exact h.put _ _
theorem bIns_mem {m : Bm} {f : Fr} {x : Int} (h : x ∈ (bIns m f).map Prod.fst) : x = f.part ∨ x ∈ m.map Prod.fst := by
  unfold bIns at h
  split at h
  · split at h
    · exact aput_mem h
    · exact .inr h
  · exact aput_mem h
theorem bIns_pos (m : Bm) (f : Fr) : 0 < (bIns m f).length := by
  have h := look_bIns m f f.part
  rw [if_pos rfl] at h
  have h2 : (less1 (aget m f.part) f.body).isSome = true := by
    unfold less1
    split
    · split <;> rfl
    · rfl
  rw [← h, aget_key] at h2
  cases hb : bIns m f with
  | nil => rw [hb] at h2; cases h2
  | cons x l => exact Nat.zero_lt_succ _
theorem GmOk.ins {m : Gm} (h : GmOk m) {f : Fr} (hf : frOk f) : GmOk (gIns m f) := by
  obtain ⟨a1, a2, a3, a4, a5, a6, a7, a8, -⟩ := hf
  refine ⟨h.keys.put _ _, fun k b hb => ?_⟩
  unfold gIns at hb
  rw [aget_put] at hb
  split at hb
  · rename_i hk
    injection hb with hb
    subst hk hb
    have hin : akeys ((aget m (kyF f)).getD []) ∧ ∀ x ∈ ((aget m (kyF f)).getD []).map Prod.fst, 0 ≤ x ∧ x < f.parts := by
      cases e : aget m (kyF f) with
      | none => exact ⟨by simp [akeys], by simp⟩
      | some b => have := h.inner _ _ e; exact ⟨this.1, this.2.1⟩
    refine ⟨bIns_keys hin.1, fun x hx => ?_, bIns_pos _ _, ⟨a1, a2⟩, ⟨a3, a4⟩, a5, a6⟩
    rcases bIns_mem hx with rfl | hx
    · exact ⟨a7, a8⟩
    · exact hin.2 x hx
  · exact h.inner k b hb
theorem gMap_ok {l : List Fr} (hl : ∀ f ∈ l, frOk f) : GmOk (gMap l) := by
  have key : ∀ (l : List Fr) (m : Gm), GmOk m → (∀ f ∈ l, frOk f) → GmOk (l.foldl gIns m) := by
    intro l
    induction l with
    | nil => exact fun m h _ => h
    | cons f l ih => exact fun m h hl => ih _ (h.ins (hl f List.mem_cons_self)) fun g hg => hl g (List.mem_cons_of_mem _ hg)
  exact key l [] ⟨by simp [akeys], fun k b hb => by simp [aget] at hb⟩ hl
/-- The message of an entry of the map, if all its parts have come. -/
def entG (x : Ky × Bm) : Option En := if (x.2.length : Int) < x.1.2.2 then none else some ⟨x.1.1, x.1.2.1, joinP (aget x.2) x.1.2.2.toNat⟩
theorem entG_whole {l : List Fr} (hl : ∀ f ∈ l, frOk f) {k : Ky} {b : Bm} (h : aget (gMap l) k = some b) : entG (k, b) = (wholeT l k.1 k.2.1 k.2.2).map fun s => ⟨k.1, k.2.1, s⟩ := by
  have hg := (gMap_ok hl).inner k b h
  obtain ⟨h1, h2, h3, h4, h5, h6, h7⟩ := hg
  have hlook : ∀ p, aget b p = leastB l k p := fun p => by
    rw [← look_gMap]
    unfold lookG
    rw [h]; rfl
  have hfe : leastB l (k.1, k.2.1, k.2.2) = aget b := by funext p; exact (hlook p).symm
  unfold wholeT entG
  rw [hfe]
  simp only
  have hd : (b.map Prod.fst).Nodup := h1
  split
  · rename_i hlt
    have : joinT (aget b) k.2.2.toNat = none := by
      cases e : joinT (aget b) k.2.2.toNat with
      | none => rfl
      | some s =>
        exfalso
        have hall := join_all _ e
        have hsub : ∀ i < k.2.2.toNat, ((i : Nat) : Int) ∈ b.map Prod.fst := fun i hi => aget_key.1 (hall i hi)
        have hle : k.2.2.toNat ≤ (b.map Prod.fst).length := by
          have hr : ((List.range k.2.2.toNat).map fun (i : Nat) => (i : Int)).Nodup :=
            List.pairwise_map.2 ((List.nodup_range (n := k.2.2.toNat)).imp fun {a b} hab e => hab (by omega))
          have := nodup_sub _ (b.map Prod.fst) hr (fun x hx => by
            obtain ⟨i, hi, rfl⟩ := List.mem_map.1 hx
            exact hsub i (List.mem_range.1 hi))
          simpa using this
        rw [List.length_map] at hle
        omega
    rw [this]; rfl
  · rename_i hge
    have hall : ∀ i < k.2.2.toNat, (aget b (i : Int)).isSome = true := fun i hi => aget_key.2 (nodup_all (n := k.2.2.toNat) hd (fun x hx => by have := h2 x hx; omega) (by rw [List.length_map]; omega) i (by omega) (by omega))
    rw [join_some _ hall]; rfl
/-! ### in order, each once -/
def ltE (a b : En) : Prop := a.office < b.office ∨ (a.office = b.office ∧ (a.no < b.no ∨ (a.no = b.no ∧ Op.bytesLess a.body b.body = true)))
instance (a b : En) : Decidable (ltE a b) := by unfold ltE; infer_instance
def ltK (a b : En) : Prop := a.office < b.office ∨ (a.office = b.office ∧ a.no < b.no)
def samK (a b : En) : Prop := a.office = b.office ∧ a.no = b.no
instance (a b : En) : Decidable (samK a b) := by unfold samK; infer_instance
/-- What is kept behind x: of neighbours that are about the same the first. -/
def cptF (x : En) : List En → List En
  | [] => []
  | y :: l => if samK x y then cptF y l else y :: cptF y l
def cpt : List En → List En
  | [] => []
  | x :: l => x :: cptF x l
theorem ltK_of {x y : En} (h : ¬ ltE y x) (hs : ¬ samK x y) : ltK x y := by
  unfold ltE at h
  unfold samK at hs
  unfold ltK
  by_cases h1 : x.office = y.office
  · have : x.no ≠ y.no := fun e => hs ⟨h1, e⟩
    by_cases h2 : x.no < y.no
    · exact .inr ⟨h1, h2⟩
    · exact absurd (.inr ⟨h1.symm, .inl (by omega)⟩) h
  · by_cases h2 : x.office < y.office
    · exact .inl h2
    · exact absurd (.inl (by omega)) h
theorem ltK_trans {x y z : En} (h : ltK x y) (h2 : ltK y z) : ltK x z := by
  unfold ltK at *; omega
theorem ltK_same {x y z : En} (h : samK x y) (h2 : ltK y z) : ltK x z := by
  unfold ltK samK at *; omega
theorem ltK_not {x y : En} (h : ltK x y) : ¬ samK x y ∧ ¬ samK y x ∧ ¬ ltK y x := by
  unfold ltK samK at *; omega
theorem sam_trans {x y z : En} (h : samK x y) (h2 : samK y z) : samK x z := ⟨h.1.trans h2.1, h.2.trans h2.2⟩
theorem min_of {x z : En} (h : ¬ ltE z x) (hs : samK x z) : Op.bytesLess z.body x.body = false := by
  cases e : Op.bytesLess z.body x.body with
  | false => rfl
  | true => exact absurd (.inr ⟨hs.1.symm, .inr ⟨hs.2.symm, e⟩⟩) h
theorem cptF_spec : ∀ (l : List En) (x : En), (x :: l).Pairwise (fun a b => ¬ ltE b a) →
    (∀ e ∈ cptF x l, e ∈ l ∧ ltK x e ∧ ∀ z ∈ l, samK e z → Op.bytesLess z.body e.body = false) ∧ (∀ z ∈ l, samK x z ∨ ∃ e ∈ cptF x l, samK e z) ∧ (cptF x l).Pairwise ltK
  | [], _, _ => ⟨fun e he => (by cases he), fun z hz => (by cases hz), List.Pairwise.nil⟩
  | y :: l, x, h => by
    obtain ⟨hx, hy⟩ := List.pairwise_cons.1 h
    obtain ⟨i1, i2, i3⟩ := cptF_spec l y hy
    have hyl := (List.pairwise_cons.1 hy).1
    unfold cptF
    split
    · rename_i hs
      refine ⟨fun e he => ?_, fun z hz => ?_, i3⟩
      · obtain ⟨j1, j2, j3⟩ := i1 e he
        refine ⟨List.mem_cons_of_mem _ j1, ltK_same hs j2, fun z hz hez => ?_⟩
        rcases List.mem_cons.1 hz with rfl | hz
        · exact absurd hez (ltK_not j2).2.1
        · exact j3 z hz hez
      · rcases List.mem_cons.1 hz with rfl | hz
        · exact .inl hs
        · rcases i2 z hz with j | j
          · exact .inl (sam_trans hs j)
          · exact .inr j
    · rename_i hs
      have hk := ltK_of (hx y List.mem_cons_self) hs
      refine ⟨fun e he => ?_, fun z hz => ?_, ?_⟩
      · rcases List.mem_cons.1 he with rfl | he
        · refine ⟨List.mem_cons_self, hk, fun z hz hez => ?_⟩
          rcases List.mem_cons.1 hz with rfl | hz
          · exact bl_irr _
          · exact min_of (hyl z hz) hez
        · obtain ⟨j1, j2, j3⟩ := i1 e he
          refine ⟨List.mem_cons_of_mem _ j1, ltK_trans hk j2, fun z hz hez => ?_⟩
          rcases List.mem_cons.1 hz with rfl | hz
          · exact absurd hez (ltK_not j2).2.1
          · exact j3 z hz hez
      · rcases List.mem_cons.1 hz with rfl | hz
        · exact .inr ⟨z, List.mem_cons_self, rfl, rfl⟩
        · rcases i2 z hz with j | ⟨e, he, j⟩
          · exact .inr ⟨y, List.mem_cons_self, j⟩
          · exact .inr ⟨e, List.mem_cons_of_mem _ he, j⟩
      · exact List.pairwise_cons.2 ⟨fun e he => (i1 e he).2.1, i3⟩
/-- A list of messages that holds, of those in Y, the least about each thing, in order. -/
structure LeastOf (Y : En → Prop) (R : List En) : Prop where
  mem : ∀ e ∈ R, Y e ∧ ∀ z, Y z → samK e z → Op.bytesLess z.body e.body = false
  all : ∀ z, Y z → ∃ e ∈ R, samK e z
  ord : R.Pairwise ltK
theorem cpt_least {ys : List En} (h : ys.Pairwise (fun a b => ¬ ltE b a)) : LeastOf (· ∈ ys) (cpt ys) := by
  cases ys with
  | nil => exact ⟨fun e he => (by cases he), fun z hz => (by cases hz), List.Pairwise.nil⟩
  | cons x l =>
    obtain ⟨i1, i2, i3⟩ := cptF_spec l x h
    have hx := (List.pairwise_cons.1 h).1
    refine ⟨fun e he => ?_, fun z hz => ?_, List.pairwise_cons.2 ⟨fun e he => (i1 e he).2.1, i3⟩⟩
    · rcases List.mem_cons.1 he with rfl | he
      · refine ⟨List.mem_cons_self, fun z hz hez => ?_⟩
        rcases List.mem_cons.1 hz with rfl | hz
        · exact bl_irr _
        · exact min_of (hx z hz) hez
      · obtain ⟨j1, j2, j3⟩ := i1 e he
        refine ⟨List.mem_cons_of_mem _ j1, fun z hz hez => ?_⟩
        rcases List.mem_cons.1 hz with rfl | hz
        · exact absurd hez (ltK_not j2).2.1
        · exact j3 z hz hez
    · rcases List.mem_cons.1 hz with rfl | hz
      · exact ⟨z, List.mem_cons_self, rfl, rfl⟩
      · rcases i2 z hz with j | ⟨e, he, j⟩
        · exact ⟨x, List.mem_cons_self, j⟩
        · exact ⟨e, List.mem_cons_of_mem _ he, j⟩
theorem ordered_ext : ∀ {l1 l2 : List En}, l1.Pairwise ltK → l2.Pairwise ltK → (∀ e, e ∈ l1 ↔ e ∈ l2) → l1 = l2
  | [], [], _, _, _ => rfl
  | [], y :: l2, _, _, h => absurd ((h y).2 List.mem_cons_self) (by simp)
  | x :: l1, [], _, _, h => absurd ((h x).1 List.mem_cons_self) (by simp)
  | x :: l1, y :: l2, h1, h2, h => by
    obtain ⟨a1, b1⟩ := List.pairwise_cons.1 h1
    obtain ⟨a2, b2⟩ := List.pairwise_cons.1 h2
    have hxy : x = y := by
      rcases List.mem_cons.1 ((h x).1 List.mem_cons_self) with e | e
      · exact e
      · rcases List.mem_cons.1 ((h y).2 List.mem_cons_self) with e2 | e2
        · exact e2.symm
        · exact absurd (a2 x e) (ltK_not (a1 y e2)).2.2
    subst hxy
    congr 1
    refine ordered_ext b1 b2 fun e => ⟨fun he => ?_, fun he => ?_⟩
    · rcases List.mem_cons.1 ((h e).1 (List.mem_cons_of_mem _ he)) with rfl | h3
      · exact absurd ⟨rfl, rfl⟩ (ltK_not (a1 e he)).1
      · exact h3
    · rcases List.mem_cons.1 ((h e).2 (List.mem_cons_of_mem _ he)) with rfl | h3
      · exact absurd ⟨rfl, rfl⟩ (ltK_not (a2 e he)).1
      · exact h3
theorem LeastOf.eq {Y : En → Prop} {R S : List En} (h : LeastOf Y R) (g : LeastOf Y S) : R = S := by
  have key : ∀ {R S : List En}, LeastOf Y R → LeastOf Y S → ∀ e ∈ R, e ∈ S := by
    intro R S h g e he
    obtain ⟨y1, m1⟩ := h.mem e he
    obtain ⟨e2, he2, hs⟩ := g.all e y1
    obtain ⟨y2, m2⟩ := g.mem e2 he2
    have hs2 : samK e e2 := ⟨hs.1.symm, hs.2.symm⟩
    have hb := bl_tri _ _ (m1 e2 y2 hs2) (m2 e y1 hs)
    obtain ⟨o, n, b⟩ := e
    obtain ⟨o2, n2, b2⟩ := e2
    obtain ⟨q1, q2⟩ := hs
    simp only at q1 q2 hb
    subst q1 q2
    rw [hb] at he2; exact he2
  exact ordered_ext h.ord g.ord fun e => ⟨key h g e, key g h e⟩
/-! ### the reference -/
def bestT (l : List Fr) (o n : Int) (k : Nat) : Option Str := (List.range k).foldl (fun acc (i : Nat) => match wholeT l o n ((i : Int) + 1) with | some b => less1 acc b | none => acc) none
def msgT (l : List Fr) (o n : Int) : Option En := (bestT l o n 32).map fun b => ⟨o, n, b⟩
def gatR (l : List Fr) : List En := (List.range 8).flatMap fun (o : Nat) => (List.range 64).flatMap fun (n : Nat) => (msgT l o n).toList
theorem bestT_succ (l : List Fr) (o n : Int) (k : Nat) : bestT l o n (k + 1) = match wholeT l o n ((k : Int) + 1) with | some b => less1 (bestT l o n k) b | none => bestT l o n k := by
  unfold bestT
  rw [List.range_succ, List.foldl_append]; rfl
theorem less1_spec {o : Option Str} {b r : Str} (h : less1 o b = some r) : (r = b ∨ o = some r) ∧ Op.bytesLess b r = false ∧ ∀ c, o = some c → Op.bytesLess c r = false := by
  unfold less1 at h
  split at h
  · rename_i c
    split at h
    · rename_i hb
      injection h with h
      subst h
      exact ⟨.inl rfl, bl_irr _, fun d hd => by injection hd with hd; subst hd; exact bl_asym hb⟩
    · rename_i hb
      injection h with h
      subst h
      exact ⟨.inr rfl, by simpa using hb, fun d hd => by injection hd with hd; subst hd; exact bl_irr _⟩
  · injection h with h
    subst h
    exact ⟨.inl rfl, bl_irr _, fun d hd => by cases hd⟩
theorem less1_isSome (o : Option Str) (b : Str) : (less1 o b).isSome = true := by
  unfold less1
  split
  · split <;> rfl
  · rfl
theorem bestT_spec (l : List Fr) (o n : Int) : ∀ (k : Nat), (∀ b, bestT l o n k = some b → (∃ i < k, wholeT l o n ((i : Int) + 1) = some b) ∧ ∀ i < k, ∀ c, wholeT l o n ((i : Int) + 1) = some c → Op.bytesLess c b = false) ∧
    (∀ i < k, (wholeT l o n ((i : Int) + 1)).isSome = true → (bestT l o n k).isSome = true)
  | 0 => ⟨fun b hb => by simp [bestT] at hb, fun i hi => by omega⟩
  | k + 1 => by
    obtain ⟨h1, h2⟩ := bestT_spec l o n k
    rw [bestT_succ]
    cases hw : wholeT l o n ((k : Int) + 1) with
    | none =>
      refine ⟨fun b hb => ?_, fun i hi hs => ?_⟩
      · obtain ⟨⟨i, hi, e⟩, h3⟩ := h1 b hb
        refine ⟨⟨i, by omega, e⟩, fun j hj c hc => ?_⟩
        by_cases hjk : j = k
        · subst hjk; rw [hw] at hc; cases hc
        · exact h3 j (by omega) c hc
      · by_cases hik : i = k
        · subst hik; rw [hw] at hs; cases hs
        · exact h2 i (by omega) hs
    | some w =>
      refine ⟨fun b hb => ?_, fun i hi hs => less1_isSome _ _⟩
      obtain ⟨h4, h5, h6⟩ := less1_spec hb
      refine ⟨?_, fun j hj c hc => ?_⟩
      · rcases h4 with rfl | h4
        · exact ⟨k, by omega, hw⟩
        · obtain ⟨⟨i, hi, e⟩, _⟩ := h1 b h4
          exact ⟨i, by omega, e⟩
      · by_cases hjk : j = k
        · subst hjk
          rw [hw] at hc
          injection hc with hc
          subst hc
          exact h5
        · have hbs := h2 j (by omega) (by rw [hc]; rfl)
          obtain ⟨d, hd⟩ := Option.isSome_iff_exists.1 hbs
          have h7 := (h1 d hd).2 j (by omega) c hc
          exact bl_le_trans (h6 d hd) h7
theorem pw_flat {f : Nat → List En} : ∀ (L : List Nat), L.Pairwise (· < ·) → (∀ i, (f i).Pairwise ltK) → (∀ i j, i < j → ∀ a ∈ f i, ∀ b ∈ f j, ltK a b) → (L.flatMap f).Pairwise ltK
  | [], _, _, _ => List.Pairwise.nil
  | i :: L, h, h1, h2 => by
    obtain ⟨a1, a2⟩ := List.pairwise_cons.1 h
    rw [List.flatMap_cons]
    refine List.pairwise_append.2 ⟨h1 i, pw_flat L a2 h1 h2, fun a ha b hb => ?_⟩
    obtain ⟨j, hj, hb⟩ := List.mem_flatMap.1 hb
    exact h2 i j (a1 j hj) a ha b hb
/-- The messages that can be put together of the frames. -/
def canT (l : List Fr) (e : En) : Prop := (0 ≤ e.office ∧ e.office < 8) ∧ (0 ≤ e.no ∧ e.no < 64) ∧ ∃ i < 32, wholeT l e.office e.no (((i : Nat) : Int) + 1) = some e.body
theorem gatR_least (l : List Fr) : LeastOf (canT l) (gatR l) := by
  have hmem : ∀ e, e ∈ gatR l ↔ ∃ o < 8, ∃ n < 64, msgT l ((o : Nat) : Int) ((n : Nat) : Int) = some e := fun e => by
    unfold gatR
    simp only [List.mem_flatMap, List.mem_range, Option.mem_toList]
  refine ⟨fun e he => ?_, fun z hz => ?_, ?_⟩
  · obtain ⟨o, ho, n, hn, h⟩ := (hmem e).1 he
    obtain ⟨b, hb, rfl⟩ := Option.map_eq_some_iff.1 h
    obtain ⟨⟨i, hi, hw⟩, hmin⟩ := (bestT_spec l o n 32).1 b hb
    refine ⟨⟨⟨by simp only; omega, by simp only; omega⟩, ⟨by simp only; omega, by simp only; omega⟩, i, hi, hw⟩, fun z hz hs => ?_⟩
    obtain ⟨-, -, j, hj, hwz⟩ := hz
    obtain ⟨q1, q2⟩ := hs
    simp only at q1 q2
    rw [← q1, ← q2] at hwz
    exact hmin j hj _ hwz
  · obtain ⟨h1, h2, i, hi, hw⟩ := hz
    have hs := (bestT_spec l z.office z.no 32).2 i hi (by rw [hw]; rfl)
    obtain ⟨b, hb⟩ := Option.isSome_iff_exists.1 hs
    refine ⟨⟨z.office, z.no, b⟩, (hmem _).2 ⟨z.office.toNat, by omega, z.no.toNat, by omega, ?_⟩, rfl, rfl⟩
    rw [Int.toNat_of_nonneg h1.1, Int.toNat_of_nonneg h2.1]
    unfold msgT
    rw [hb]; rfl
  · have inner : ∀ o : Nat, ∀ e ∈ (List.range 64).flatMap fun (n : Nat) => (msgT l o n).toList, e.office = o := fun o e he => by
      obtain ⟨n, _, hn⟩ := List.mem_flatMap.1 he
      obtain ⟨b, _, rfl⟩ := Option.map_eq_some_iff.1 (Option.mem_toList.1 hn)
      rfl
    refine pw_flat _ List.pairwise_lt_range (fun o => ?_) (fun i j hij a ha b hb => .inl (by rw [inner i a ha, inner j b hb]; omega))
    refine pw_flat _ List.pairwise_lt_range (fun n => ?_) (fun i j hij a ha b hb => ?_)
    · cases msgT l o n with
      | none => exact List.Pairwise.nil
      | some e => exact List.pairwise_singleton _ _
    · obtain ⟨x, _, rfl⟩ := Option.map_eq_some_iff.1 (Option.mem_toList.1 ha)
      obtain ⟨y, _, rfl⟩ := Option.map_eq_some_iff.1 (Option.mem_toList.1 hb)
      exact .inr ⟨rfl, by simp only; omega⟩
theorem aget_mem {κ α : Type} [DecidableEq κ] {l : List (κ × α)} (h : akeys l) {k : κ} {x : α} : (k, x) ∈ l ↔ aget l k = some x := by
  constructor
  · intro hm
    obtain ⟨j, hj⟩ := List.getElem?_of_mem hm
    exact aget_of h hj
  · intro hg
    unfold aget at hg
    obtain ⟨p, hp, rfl⟩ := Option.map_eq_some_iff.1 hg
    have h1 := List.find?_some hp
    have h2 := List.mem_of_find?_eq_some hp
    have : p.1 = k := by simpa using h1
    rw [← this]; exact h2
theorem can_iff {l : List Fr} (hl : ∀ f ∈ l, frOk f) (e : En) : (∃ x ∈ gMap l, entG x = some e) ↔ canT l e := by
  have hok := gMap_ok hl
  constructor
  · rintro ⟨⟨k, b⟩, hx, he⟩
    have hg := (aget_mem hok.keys).1 hx
    obtain ⟨-, -, -, h4, h5, h6, h7⟩ := hok.inner k b hg
    rw [entG_whole hl hg] at he
    obtain ⟨s, hs, rfl⟩ := Option.map_eq_some_iff.1 he
    refine ⟨h4, h5, (k.2.2 - 1).toNat, by omega, ?_⟩
    simp only
    rw [Int.toNat_of_nonneg (by omega), Int.sub_add_cancel]
    exact hs
  · rintro ⟨h1, h2, i, hi, hw⟩
    have h0 := join_all _ hw 0 (by omega)
    rw [← look_gMap] at h0
    unfold lookG at h0
    cases hb : aget (gMap l) (e.office, e.no, (i : Int) + 1) with
    | none => rw [hb] at h0; simp [aget] at h0
    | some b =>
      refine ⟨_, (aget_mem hok.keys).2 hb, ?_⟩
      rw [entG_whole hl hb]
      simp only
      rw [hw]; rfl
/-- What the program's maps give, put in order and each thing once: what the reference gives. -/
theorem gather_eq {l : List Fr} (hl : ∀ f ∈ l, frOk f) {ys : List En} (hy : ys.Perm ((gMap l).filterMap entG)) (hs : ys.Pairwise (fun a b => ¬ ltE b a)) : cpt ys = gatR l := by
  have h := cpt_least hs
  have g := gatR_least l
  refine LeastOf.eq (Y := canT l) ?_ g
  have hY : ∀ e, e ∈ ys ↔ canT l e := fun e => by
    rw [hy.mem_iff, List.mem_filterMap]
    exact can_iff hl e
  exact ⟨fun e he => ⟨(hY e).1 (h.mem e he).1, fun z hz => (h.mem e he).2 z ((hY z).2 hz)⟩, fun z hz => h.all z ((hY z).2 hz), h.ord⟩
end Go.Proofs.Ytlbmlimaobkhpaa
