/- The walk's logic: maps gone through, ends of rows. -/
import Derived.Test.YtlbmlimaobkhpaaGe
import Derived.Maps.RangeRun
set_option linter.unusedVariables false
set_option linter.unusedSimpArgs false
set_option linter.unusedSectionVars false
/- Rules: maps that are owned, gone through in whatever order; how long they are. -/
namespace Go
namespace Gv
variable {P : Program}
section
variable {κ α : Type} [DecidableEq κ]
theorem MapLen.own {h : View} {O : Hp} {b : Nat} {g : κ → Value} {v : α → Value} {l : List (κ × α)} {K : Value → Prop} (m : (b, mapObj g v l) ∈ O) (hk : K (iN l.length)) : MapLen h O b K :=
  .mk ⟨mapEs g v 0 l⟩ l.length (.own m) (by
    show K (.int .i64 (((⟨mapEs g v 0 l⟩ : Array MapEntry).size : Nat) : Int))
    rw [show (⟨mapEs g v 0 l⟩ : Array MapEntry).size = l.length from mapEs_len g v l 0]; exact hk)
/-- An iterator over a map of n entries; which it has seen. -/
def iterO (b n : Nat) (seen : List Nat) : Obj := .mapIter (some b) n ⟨seen⟩ n
theorem RunSt.range {h : View} {O : Hp} {t kt e : TypeId} {b : Nat} {g : κ → Value} {v : α → Value} {l : List (κ × α)} {K : Value → View → Hp → Prop} (m : (b, mapObj g v l) ∈ O) (ht : P.underlying t = some (.map kt e))
    (hk : ∀ r, h r = none → (∀ o, (r, o) ∉ O) → K (.pointer (some ⟨r, 0, none⟩)) h ((r, iterO b l.length []) :: O)) : RunSt P (Instr.range t (.map (some b))) h O K := by
  refine .mk fun w hv => ?_
  have hb : w.heap[b]? = some (mapObj g v l) := hv.own _ _ m
  obtain ⟨st, h1, h2⟩ := Step.alloc (w' := w.alloc (iterO b l.length [])) hv rfl rfl rfl rfl
  exact ⟨_, _, h, _, run_range_map w t kt e b _ _ ht hb, st, hk _ h1 h2⟩
theorem mem_left {g : κ → Value} {v : α → Value} {l : List (κ × α)} {seen : List Nat} {e : MapEntry} (h : e ∈ (leftOf ⟨mapEs g v 0 l⟩ ⟨seen⟩).toList) : ∃ j k x, l[j]? = some (k, x) ∧ j ∉ seen ∧ e = ⟨g k, v x, j⟩ := by
  unfold leftOf at h
  simp only [Array.toList_filter, List.mem_filter] at h
  obtain ⟨h1, h2⟩ := h
  obtain ⟨j, hj⟩ := List.getElem?_of_mem h1
  rw [mapEs_get] at hj
  cases hp : l[j]? with
  | none => rw [hp] at hj; cases hj
  | some p =>
    rw [hp] at hj
    cases hj
    refine ⟨j, p.1, p.2, hp, ?_, by simp⟩
    simp at h2
    exact h2
theorem left_none {g : κ → Value} {v : α → Value} {l : List (κ × α)} {seen : List Nat} (h : (leftOf ⟨mapEs g v 0 l⟩ ⟨seen⟩).size = 0) : ∀ j < l.length, j ∈ seen := fun j hj => by
  have h0 : leftOf ⟨mapEs g v 0 l⟩ ⟨seen⟩ = #[] := Array.eq_empty_of_size_eq_zero h
  by_cases hs : j ∈ seen
  · exact hs
  · exfalso
    have hm : (⟨g l[j].1, v l[j].2, 0 + j⟩ : MapEntry) ∈ mapEs g v 0 l := by
      refine List.mem_of_getElem? (i := j) ?_
      rw [mapEs_get, List.getElem?_eq_getElem hj]; rfl
    have : (⟨g l[j].1, v l[j].2, 0 + j⟩ : MapEntry) ∈ (leftOf ⟨mapEs g v 0 l⟩ ⟨seen⟩).toList := by
      unfold leftOf
      simp only [Array.toList_filter, List.mem_filter]
      refine ⟨hm, ?_⟩
      simpa using hs
    rw [h0] at this
    cases this
/-- One step: nothing is left, or an entry that was not seen, whichever. -/
theorem RunSt.next {h : View} {O1 O2 : Hp} {ty : TypeId} {r b : Nat} {g : κ → Value} {v : α → Value} {l : List (κ × α)} {seen : List Nat} {K : Value → View → Hp → Prop} (m : (b, mapObj g v l) ∈ O1 ++ (r, iterO b l.length seen) :: O2)
    (h0 : (∀ j < l.length, j ∈ seen) → K (.tuple ⟨[.bool false]⟩) h (O1 ++ (r, iterO b l.length seen) :: O2))
    (h1 : ∀ j k x, l[j]? = some (k, x) → j ∉ seen → K (.tuple ⟨[.bool true, g k, v x]⟩) h (O1 ++ (r, iterO b l.length (seen ++ [j])) :: O2)) : RunSt P (Instr.next (.pointer (some ⟨r, 0, none⟩)) false ty) h (O1 ++ (r, iterO b l.length seen) :: O2) K := by
  refine .mk fun w hv => ?_
  have hb : w.heap[b]? = some (mapObj g v l) := hv.own _ _ m
  have hr : w.heap[r]? = some (iterO b l.length seen) := hv.own _ _ (by simp)
  rcases run_next_at (P := P) w ty r b l.length l.length ⟨seen⟩ ⟨mapEs g v 0 l⟩ l.length hr hb (fun x hx => by
      obtain ⟨j, hj⟩ := List.getElem?_of_mem hx
      rw [mapEs_get] at hj
      cases hp : l[j]? with
      | none => rw [hp] at hj; cases hj
      | some p =>
        rw [hp] at hj
        cases hj
        have := (List.getElem?_eq_some_iff.1 hp).1
        show 0 + j < l.length
        omega) (Nat.le_refl _) with ⟨h2, h3⟩ | ⟨e, he, w1, hw1, h3⟩
  · exact ⟨_, w, h, _, h3, Step.refl hv, h0 (left_none h2)⟩
  · obtain ⟨j, k, x, hj, hs, rfl⟩ := mem_left he
    have hv1 : Val h (O1 ++ (r, iterO b l.length seen) :: O2) w1 := by
      rcases hw1 with rfl | rfl
      · exact hv
      · exact hv.drew
    have hst : Step h (O1 ++ (r, iterO b l.length seen) :: O2) w h (O1 ++ (r, iterO b l.length seen) :: O2) w1 := by
      rcases hw1 with rfl | rfl
      · exact Step.refl hv
      · exact hv.drawn _
    refine ⟨_, _, h, _, h3, hst.trans (Step.put (o' := iterO b l.length (seen ++ [j])) hv1) |> fun z => ?_, h1 j k x hj hs⟩
    simpa [putBlock, ChangeMaps.setBlock, iterO] using z
/-- The entry at which the last step stands. -/
theorem RunSt.entry {h : View} {O : Hp} {r b j : Nat} {g : κ → Value} {v : α → Value} {l : List (κ × α)} {k : κ} {x : α} {seen : List Nat} {K : Value → View → Hp → Prop} (m : (b, mapObj g v l) ∈ O) (mr : (r, iterO b l.length (seen ++ [j])) ∈ O) (hj : l[j]? = some (k, x))
    (hk : K (.tuple ⟨[g k, v x]⟩) h O) : RunSt P (Instr.entry (.pointer (some ⟨r, 0, none⟩))) h O K := by
  refine .mk fun w hv => ?_
  have hb : w.heap[b]? = some (mapObj g v l) := hv.own _ _ m
  have hr : w.heap[r]? = some (iterO b l.length (seen ++ [j])) := hv.own _ _ mr
  have hr2 : w.heap[r]? = some (.mapIter (some b) l.length ((⟨seen⟩ : Array Nat).push j) l.length) := by
    rw [hr]
    unfold iterO
    congr 2
    simp
  have hm : (⟨g k, v x, j⟩ : MapEntry) ∈ mapEs g v 0 l := by
    refine List.mem_of_getElem? (i := j) ?_
    rw [mapEs_get, hj]
    simp
  have hn : ((⟨mapEs g v 0 l⟩ : Array MapEntry).toList.map (·.born)).Nodup := by
    have e : (mapEs g v 0 l).map (·.born) = List.range l.length := by
      apply List.ext_getElem?
      intro i
      rw [List.getElem?_map, mapEs_get]
      by_cases hi : i < l.length
      · rw [List.getElem?_eq_getElem hi, List.getElem?_range hi]; simp
      · rw [List.getElem?_eq_none (by omega), List.getElem?_eq_none (by rw [List.length_range]; omega)]; rfl
    show ((mapEs g v 0 l).map (·.born)).Nodup
    rw [e]; exact List.nodup_range
  exact ⟨_, w, h, O, run_entry_at (P := P) w r b l.length ⟨seen⟩ ⟨mapEs g v 0 l⟩ l.length ⟨g k, v x, j⟩ hr2 hb hm hn, Step.refl hv, hk⟩
end
end Gv
end Go
/- Rules: the end of a row cleared; a row's end read. -/
namespace Go
namespace Gv
variable {P : Program}
theorem flat_drop {α : Type} {g : α → List Value} {s : Nat} (hg : ∀ x, (g x).length = s) : ∀ (xs : List α) (i : Nat), (xs.flatMap g).drop (i * s) = (xs.drop i).flatMap g
  | [], i => by simp
  | x :: xs, 0 => by simp
  | x :: xs, i + 1 => by
    rw [List.flatMap_cons, List.drop_append, hg, List.drop_succ_cons, ← flat_drop hg xs i]
    rw [List.drop_of_length_le (by rw [hg, Nat.add_mul]; omega), List.nil_append]
    congr 1
    rw [Nat.add_mul]; omega
theorem flat_take {α : Type} {g : α → List Value} {s : Nat} (hg : ∀ x, (g x).length = s) : ∀ (xs : List α) (i : Nat), (xs.flatMap g).take (i * s) = (xs.take i).flatMap g
  | [], i => by simp
  | x :: xs, 0 => by simp
  | x :: xs, i + 1 => by
    rw [List.flatMap_cons, List.take_append, hg, List.take_succ_cons, List.flatMap_cons, ← flat_take hg xs i]
    rw [List.take_of_length_le (by rw [hg, Nat.add_mul]; omega)]
    congr 2
    rw [Nat.add_mul]; omega
/-- The end of a row, cleared: the row is cut there. -/
theorem ClearSt.tail {inf : TypeInfo} {b : Buf} {e : TypeId} {l : List Value} {n m i cp sz : Nat} {a : Option Addr} {h : View} {O : Hp} {f : Hp → Hp} {K : View → Hp → Prop} (hO : Loc O (b.hp e l) f) (hb : b.ok sz l n) (z : List Value) (hz : zeroCellsOf inf = Option.some z) (hsz : inf.size = sz) (hs : z.length = sz)
    (h1 : z.all (·.oneCell') = true) (hi : i ≤ n) (hm : m = n - i) (ha : a = if b.cap = i then b.a else b.a.map (·.add (i * sz)))
    (hk : ∀ b' : Buf, b'.a = b.a → b'.cap = b.cap → b'.ok sz (l.take (i * sz)) i → K h (f (b'.hp e (l.take (i * sz))))) : ClearSt P inf (.slice a m cp) h O K := by
  subst hsz
  subst hm
  have same : i = n → K h O := by
    intro h0
    obtain ⟨A, B, e1, hf⟩ := hO.parts
    have e2 : l.take (i * inf.size) = l := List.take_of_length_le (by rw [hb.1, h0]; exact Nat.le_refl _)
    have := hk b rfl rfl (by rw [e2, h0]; exact hb)
    rw [e2, hf, ← e1] at this
    exact this
  by_cases hin : i = n
  · subst hin
    rw [Nat.sub_self]
    exact .none _ _ rfl (same rfl)
  · obtain ⟨a', cap, pad, fr⟩ := b
    rcases hb with ⟨hl, ⟨hA, hc, hn⟩ | ⟨hA, hc, hp, hfr⟩⟩
    · simp only at hA hc hn
      omega
    · simp only at hA hc hp hfr ha
      have e1 : Buf.hp ⟨a', cap, pad, fr⟩ e l = [(blk a', .cells ⟨l ++ pad⟩ e fr)] := by rw [hA]; rfl
      rw [e1] at hO
      have hcap : n * inf.size ≤ cap * inf.size := Nat.mul_le_mul_right _ hc
      have his : i * inf.size + (n - i) * inf.size = n * inf.size := by rw [← Nat.add_mul]; congr 1; omega
      have ea : a = Option.some ⟨blk a', i * inf.size, Option.none⟩ := by
        rw [ha, if_neg (by omega)]
        generalize blk a' = B at *
        rw [hA]
        show Option.some (Addr.add ⟨B, 0, Option.none⟩ (i * inf.size)) = _
        unfold Addr.add
        split
        · rename_i h0; rw [h0]
        · simp
      refine .some (blk a') (i * inf.size) (n - i) cp z (by rw [ea]) hz (.own hO.upd ?_ ?_ ?_ ?_)
      · rw [rows_length, hs, List.length_append, hl]; omega
      · rw [rows_length, hs]; rcases hfr with h | h <;> omega
      · rw [List.all_eq_true] at h1 ⊢
        intro v hv
        unfold rows at hv
        obtain ⟨r, hr, hv⟩ := List.mem_flatten.1 hv
        rw [(List.mem_replicate.1 hr).2] at hv
        exact h1 v hv
      · have e2 : setRange (l ++ pad) (i * inf.size) (rows (n - i) z) = l.take (i * inf.size) ++ (rows (n - i) z ++ pad) := by
          apply List.ext_getElem?
          intro j
          rw [setRange_get, rows_length, hs]
          have ht : (l.take (i * inf.size)).length = i * inf.size := by rw [List.length_take]; omega
          by_cases h2 : j < i * inf.size
          · rw [if_neg (by omega), List.getElem?_append_left (by omega), List.getElem?_append_left (by omega), List.getElem?_take, if_pos h2]
          · rw [List.getElem?_append_right (l₁ := l.take _) (by omega), ht]
            by_cases h3 : j < n * inf.size
            · rw [if_pos (by simp; omega), List.getElem?_append_left (by rw [rows_length, hs]; omega)]
            · rw [if_neg (by omega), List.getElem?_append_right (by omega), List.getElem?_append_right (by rw [rows_length, hs]; omega), rows_length, hs, hl]
              congr 1; omega
        rw [e2]
        have := hk ⟨a', cap, rows (n - i) z ++ pad, fr⟩ rfl rfl ⟨by rw [List.length_take]; omega, .inr ⟨hA, by simp only; omega, ?_, hfr⟩⟩
        · have e3 : Buf.hp ⟨a', cap, rows (n - i) z ++ pad, fr⟩ e (l.take (i * inf.size)) = [(blk a', .cells ⟨l.take (i * inf.size) ++ (rows (n - i) z ++ pad)⟩ e fr)] := by rw [hA]; rfl
          rw [e3] at this; exact this
        · simp only [List.length_append, rows_length, hs, hp]
          rw [← Nat.add_mul]; congr 1; omega
/-- The end of a row, read. -/
theorem Rd.tail {α : Type} {g : α → List Value} {s : Nat} (hg : ∀ x, (g x).length = s) {b : Buf} {e : TypeId} {xs : List α} {n i : Nat} {h : View} {a : Option Addr} (hb : b.ok s (xs.flatMap g) n) (hi : i < b.cap) (ha : a = if b.cap = i then b.a else b.a.map (·.add (i * s))) : Rd h (b.hp e (xs.flatMap g)) a ((xs.drop i).flatMap g) := by
  rw [← flat_drop hg, ha]
  exact Rd.slice (Buf.rd hb) i b.cap s (fun e => by omega)
end Gv
end Go
/- Rules: maps whose keys have a form. -/
namespace Go
namespace Gv
variable {P : Program}
set_option linter.unusedSectionVars false
set_option linter.unusedVariables false
section
variable {κ α : Type} [DecidableEq κ]
/-- What is found of the entries. -/
theorem run_findIn {kt : TypeId} (Kd : Maps.Keyed P kt) {g : κ → Value} {v : α → Value} {l : List (κ × α)} (k : κ) (hg : ∀ q, q = k ∨ q ∈ l.map Prod.fst → ∃ l, keyOf P kt (g q) = some l) (hi : ∀ a b, g a = g b → a = b) (hl : akeys l) (w : World) :
    ((Instr.findKey kt (g k) (mapEs g v 0 l)).run P w = .ok none w ∧ ∀ p ∈ l, p.1 ≠ k) ∨
    ∃ j x, (Instr.findKey kt (g k) (mapEs g v 0 l)).run P w = .ok (some (j, v x)) w ∧ l[j]? = some (k, x) := by
  obtain ⟨lk, hlk⟩ := hg k (.inl rfl)
  rcases Kd.find w hlk (mapEs g v 0 l) (fun e he => by obtain ⟨p, hp, h1, _⟩ := mapEs_mem he; rw [h1]; exact hg p.1 (.inr (List.mem_map_of_mem hp))) with ⟨h1, h2⟩ | ⟨j, e, h1, h2, h3⟩
  · refine .inl ⟨h1, fun p hp => ?_⟩
    intro e
    obtain ⟨j, hj⟩ := List.getElem?_of_mem hp
    have : (mapEs g v 0 l)[j]? = some ⟨g p.1, v p.2, 0 + j⟩ := by rw [mapEs_get, hj]; rfl
    exact h2 _ (List.mem_of_getElem? this) (by rw [e])
  · rw [mapEs_get] at h2
    cases hp : l[j]? with
    | none => rw [hp] at h2; cases h2
    | some p =>
      rw [hp] at h2
      cases h2
      obtain ⟨k', x⟩ := p
      have := hi _ _ h3
      simp only at this
      subst this
      exact .inr ⟨j, x, h1, hp⟩
theorem LookSt.ownIn {h : View} {O : Hp} {t kt e : TypeId} {b : Nat} {g : κ → Value} {v : α → Value} {l : List (κ × α)} {k : κ} {key : Value} {ok : Bool} {K : Value → Prop} (m : (b, mapObj g v l) ∈ O) (ht : P.underlying t = some (.map kt e)) (Kd : Maps.Keyed P kt)
    (hg : ∀ q, q = k ∨ q ∈ l.map Prod.fst → ∃ l, keyOf P kt (g q) = some l) (hi : ∀ a b, g a = g b → a = b) (hl : akeys l) (hkey : key = g k) (z : Value) (hz : ∀ w, (zeroValue e).run P w = .ok z w)
    (h1 : ∀ x, aget l k = some x → K (if ok then .tuple #[v x, .bool true] else v x)) (h0 : aget l k = none → K (if ok then .tuple #[z, .bool false] else z)) : LookSt P h O t (.map (some b)) key ok K := by
  subst hkey
  have run : ∀ (w : World), Val h O w → ∀ r, (Instr.findKey kt (g k) (mapEs g v 0 l)).run P w = .ok r w → (Instr.lookup t (.map (some b)) (g k) ok).run P w = .ok (match r with
      | some (_, v) => if ok then .tuple #[v, .bool true] else v
      | none => if ok then .tuple #[z, .bool false] else z) w := by
    intro w hv r hr
    obtain ⟨lk, hlk⟩ := hg k (.inl rfl)
    have hb : w.heap[b]? = some (mapObj g v l) := hv.own _ _ m
    have hc := Kd.check w (⟨mapEs g v 0 l⟩ : Array MapEntry).isEmpty hlk
    have hgo := MapKept.run_getObj_map (P := P) hb
    simp only [List.isEmpty_toArray] at hc
    cases r with
    | none => simp [Instr.lookup, run_underlying ht, hgo, hc, hr, hz, Result.andThen]
    | some q => obtain ⟨j, q⟩ := q; simp [Instr.lookup, run_underlying ht, hgo, hc, hr, Result.andThen]
  cases hag : aget l k with
  | none =>
    refine .mk _ (fun w hv => ?_) (h0 hag)
    rcases run_findIn Kd (v := v) k hg hi hl w with ⟨h2, h3⟩ | ⟨j, x, h2, h3⟩
    · exact run w hv _ h2
    · rw [aget_of hl h3] at hag; cases hag
  | some x =>
    refine .mk _ (fun w hv => ?_) (h1 x hag)
    rcases run_findIn Kd (v := v) k hg hi hl w with ⟨h2, h3⟩ | ⟨j, x', h2, h3⟩
    · rw [aget_no h3] at hag; cases hag
    · rw [aget_of hl h3] at hag
      cases hag
      exact run w hv _ h2
theorem MapUp.ownIn {h : View} {O : Hp} {t kt e : TypeId} {b : Nat} {g : κ → Value} {v : α → Value} {l : List (κ × α)} {k : κ} {x : α} {key val : Value} {f : Hp → Hp} {K : View → Hp → Prop} (L : Loc O [(b, mapObj g v l)] f) (ht : P.underlying t = some (.map kt e)) (Kd : Maps.Keyed P kt)
    (hg : ∀ q, q = k ∨ q ∈ l.map Prod.fst → ∃ l, keyOf P kt (g q) = some l) (hi : ∀ a b, g a = g b → a = b) (hl : akeys l) (hkey : key = g k) (hval : val = v x) (hk : K h (f [(b, mapObj g v (aput l k x))])) : MapUp P t (.map (some b)) key val h O K := by
  subst hkey hval
  refine .mk fun w hv => ?_
  obtain ⟨A, B, rfl, hf⟩ := L.parts
  rw [hf] at hk
  have hb : w.heap[b]? = some (mapObj g v l) := hv.own _ _ (by simp)
  have hgo := MapKept.run_getObj_map (P := P) hb
  obtain ⟨lk, hlk⟩ := hg k (.inl rfl)
  have hc := Kd.check w false hlk
  have hst : ∀ o', (setObj b o').run P w = .ok () (putBlock w b o') := fun o' => MapKept.run_setObj_map (P := P) o' hb
  have fin : (Instr.mapUpdate t (.map (some b)) (g k) (v x)).run P w = .ok () (putBlock w b (mapObj g v (aput l k x))) := by
    rcases run_findIn Kd (v := v) k hg hi hl w with ⟨h2, h3⟩ | ⟨j, x', h2, h3⟩
    · have eo : Obj.map (mapEs g v 0 l ++ [(⟨g k, v x, l.length⟩ : MapEntry)]).toArray (l.length + 1) = mapObj g v (aput l k x) := by
        rw [aput_no h3]
        unfold mapObj
        congr 1
        · apply Array.ext'
          apply List.ext_getElem?
          intro i
          rw [mapEs_get]
          rcases Nat.lt_trichotomy i l.length with h4 | h4 | h4
          · rw [List.getElem?_append_left (by rw [mapEs_len]; exact h4), mapEs_get, List.getElem?_append_left h4]
          · subst h4
            rw [List.getElem?_append_right (by rw [mapEs_len]; omega), mapEs_len, List.getElem?_append_right (Nat.le_refl _), Nat.sub_self]
            simp
          · rw [List.getElem?_eq_none (by simp [mapEs_len]; omega), List.getElem?_eq_none (by simp; omega)]; rfl
        · simp
      simp [Instr.mapUpdate, run_underlying ht, hgo, hc, h2, Result.andThen]
      rw [eo]; exact hst _
    · have hs := Kd.stays w hlk
      have hj : (mapEs g v 0 l)[j]? = some ⟨g k, v x', 0 + j⟩ := by rw [mapEs_get, h3]; rfl
      have eo : Obj.map ((mapEs g v 0 l).modify j fun e => { key := g k, val := v x, born := e.born }).toArray l.length = mapObj g v (aput l k x) := by
        rw [aput_at hl h3]
        unfold mapObj
        congr 1
        · apply Array.ext'
          apply List.ext_getElem?
          intro i
          rw [mapEs_get, List.getElem?_modify, mapEs_get, List.getElem?_set]
          by_cases h4 : j = i
          · subst h4
            have hlt : j < l.length := (List.getElem?_eq_some_iff.1 h3).1
            rw [h3]; simp [hlt]
          · simp [h4]
        · simp
      have hkey : ((((⟨mapEs g v 0 l⟩ : Array MapEntry)[j]?).map (·.key)).getD (g k)) = g k := by
        rw [List.getElem?_toArray, hj]; rfl
      simp [Instr.mapUpdate, run_underlying ht, hgo, hc, h2, hj, hs, Result.andThen]
      rw [eo]; exact hst _
  exact ⟨_, h, _, fin, Step.put (by simpa using hv), by simpa using hk⟩
/-- A look-up that takes what is not there for nothing. -/
theorem LookSt.ownD {h : View} {O : Hp} {t kt e : TypeId} {b : Nat} {g : κ → Value} {v : α → Value} {l : List (κ × α)} {k : κ} {key : Value} {K : Value → Prop} (d : α) (m : (b, mapObj g v l) ∈ O) (ht : P.underlying t = some (.map kt e)) (Kd : Maps.Keyed P kt)
    (hg : ∀ q, q = k ∨ q ∈ l.map Prod.fst → ∃ l, keyOf P kt (g q) = some l) (hi : ∀ a b, g a = g b → a = b) (hl : akeys l) (hkey : key = g k) (hz : ∀ w, (zeroValue e).run P w = .ok (v d) w)
    (hk : K (v ((aget l k).getD d))) : LookSt P h O t (.map (some b)) key false K := by
  refine LookSt.ownIn (v := v) m ht Kd hg hi hl hkey (v d) hz (fun x hx => ?_) (fun hn => ?_)
  · rw [hx] at hk; exact hk
  · rw [hn] at hk; exact hk
/-- A look-up whose outcome is known. -/
theorem LookSt.ownO {h : View} {O : Hp} {t kt e : TypeId} {b : Nat} {g : κ → Value} {v : α → Value} {l : List (κ × α)} {k : κ} {key : Value} {ok : Bool} {K : Value → Prop} (o : Option α) (z : Value) (m : (b, mapObj g v l) ∈ O) (ht : P.underlying t = some (.map kt e)) (Kd : Maps.Keyed P kt)
    (hg : ∀ q, q = k ∨ q ∈ l.map Prod.fst → ∃ l, keyOf P kt (g q) = some l) (hi : ∀ a b, g a = g b → a = b) (hl : akeys l) (hkey : key = g k) (hz : ∀ w, (zeroValue e).run P w = .ok z w)
    (hk : K (match o with | some x => if ok then .tuple #[v x, .bool true] else v x | none => if ok then .tuple #[z, .bool false] else z)) (ho : aget l k = o) : LookSt P h O t (.map (some b)) key ok K := by
  refine LookSt.ownIn (v := v) m ht Kd hg hi hl hkey z hz (fun x hx => ?_) (fun hn => ?_)
  · have e := ho.symm.trans hx
    subst e; exact hk
  · have e := ho.symm.trans hn
    subst e; exact hk
theorem LookSt.someF {h : View} {O : Hp} {t kt e : TypeId} {b : Nat} {g : κ → Value} {v : α → Value} {l : List (κ × α)} {k : κ} {key : Value} {K : Value → Prop} (x : α) (z : Value) (m : (b, mapObj g v l) ∈ O) (ht : P.underlying t = some (.map kt e)) (Kd : Maps.Keyed P kt)
    (hg : ∀ q, q = k ∨ q ∈ l.map Prod.fst → ∃ l, keyOf P kt (g q) = some l) (hi : ∀ a b, g a = g b → a = b) (hl : akeys l) (hkey : key = g k) (hz : ∀ w, (zeroValue e).run P w = .ok z w) (ho : aget l k = some x)
    (hk : K (v x)) : LookSt P h O t (.map (some b)) key false K := .ownO (some x) z m ht Kd hg hi hl hkey hz hk ho
theorem LookSt.someT {h : View} {O : Hp} {t kt e : TypeId} {b : Nat} {g : κ → Value} {v : α → Value} {l : List (κ × α)} {k : κ} {key : Value} {K : Value → Prop} (x : α) (z : Value) (m : (b, mapObj g v l) ∈ O) (ht : P.underlying t = some (.map kt e)) (Kd : Maps.Keyed P kt)
    (hg : ∀ q, q = k ∨ q ∈ l.map Prod.fst → ∃ l, keyOf P kt (g q) = some l) (hi : ∀ a b, g a = g b → a = b) (hl : akeys l) (hkey : key = g k) (hz : ∀ w, (zeroValue e).run P w = .ok z w) (ho : aget l k = some x)
    (hk : K (.tuple #[v x, .bool true])) : LookSt P h O t (.map (some b)) key true K := .ownO (some x) z m ht Kd hg hi hl hkey hz hk ho
theorem LookSt.noneF {h : View} {O : Hp} {t kt e : TypeId} {b : Nat} {g : κ → Value} {v : α → Value} {l : List (κ × α)} {k : κ} {key : Value} {K : Value → Prop} (z : Value) (m : (b, mapObj g v l) ∈ O) (ht : P.underlying t = some (.map kt e)) (Kd : Maps.Keyed P kt)
    (hg : ∀ q, q = k ∨ q ∈ l.map Prod.fst → ∃ l, keyOf P kt (g q) = some l) (hi : ∀ a b, g a = g b → a = b) (hl : akeys l) (hkey : key = g k) (hz : ∀ w, (zeroValue e).run P w = .ok z w) (ho : aget l k = none)
    (hk : K (z)) : LookSt P h O t (.map (some b)) key false K := .ownO (none) z m ht Kd hg hi hl hkey hz hk ho
theorem LookSt.noneT {h : View} {O : Hp} {t kt e : TypeId} {b : Nat} {g : κ → Value} {v : α → Value} {l : List (κ × α)} {k : κ} {key : Value} {K : Value → Prop} (z : Value) (m : (b, mapObj g v l) ∈ O) (ht : P.underlying t = some (.map kt e)) (Kd : Maps.Keyed P kt)
    (hg : ∀ q, q = k ∨ q ∈ l.map Prod.fst → ∃ l, keyOf P kt (g q) = some l) (hi : ∀ a b, g a = g b → a = b) (hl : akeys l) (hkey : key = g k) (hz : ∀ w, (zeroValue e).run P w = .ok z w) (ho : aget l k = none)
    (hk : K (.tuple #[z, .bool false])) : LookSt P h O t (.map (some b)) key true K := .ownO (none) z m ht Kd hg hi hl hkey hz hk ho
end
end Gv
end Go
