/- Texts of pillows, plainly; library calls. -/
import Derived.Test.YtaahjlhfmkjefaaGreatDoorMh
import Derived.Lib.SplitLaws
import Derived.Lib.AtoiAll
set_option linter.unusedVariables false
set_option linter.unusedSimpArgs false
set_option linter.unusedSectionVars false
/- Texts of pillows, plainly: pieces between blanks, numerals, what is read back. -/
namespace Go.Proofs.YtaahjlhfmkjefaaGreatDoor
open Go Go.Gv
set_option maxRecDepth 100000
set_option maxHeartbeats 4000000
set_option linter.unusedSimpArgs false
set_option linter.unusedVariables false
/-- The pieces of a string between bytes c. -/
def spl (c : UInt8) : List UInt8 → List (List UInt8)
  | [] => [[]]
  | b :: l => if b = c then [] :: spl c l else ((b :: (spl c l).headD []) :: (spl c l).tail)
def jn (c : UInt8) : List (List UInt8) → List UInt8
  | [] => []
  | x :: xs => x ++ xs.flatMap fun y => c :: y
theorem spl_ne (c : UInt8) : ∀ l, spl c l ≠ []
  | [] => by simp [spl]
  | b :: l => by unfold spl; split <;> simp
theorem jn_spl (c : UInt8) : ∀ l, jn c (spl c l) = l
  | [] => rfl
  | b :: l => by
    have ih := jn_spl c l
    unfold spl
    obtain ⟨x, xs, e⟩ : ∃ x xs, spl c l = x :: xs := List.exists_cons_of_ne_nil (spl_ne c l)
    rw [e] at ih ⊢
    split
    · rename_i hb
      subst hb
      show [] ++ (b :: x ++ xs.flatMap fun y => b :: y) = _
      rw [← ih]; rfl
    · show b :: x ++ xs.flatMap (fun y => c :: y) = _
      rw [← ih]; rfl
theorem spl_app {c : UInt8} : ∀ {x : List UInt8} (y : List UInt8), c ∉ x → spl c (x ++ c :: y) = x :: spl c y
  | [], y, _ => by simp [spl]
  | b :: x, y, h => by
    have hb : b ≠ c := fun e => h (e ▸ List.mem_cons_self)
    have := spl_app (x := x) y (fun e => h (List.mem_cons_of_mem _ e))
    rw [List.cons_append, spl, if_neg hb, this]
    rfl
theorem spl_one {c : UInt8} : ∀ {x : List UInt8}, c ∉ x → spl c x = [x]
  | [], _ => rfl
  | b :: x, h => by
    have hb : b ≠ c := fun e => h (e ▸ List.mem_cons_self)
    rw [spl, if_neg hb, spl_one (x := x) (fun e => h (List.mem_cons_of_mem _ e))]
    rfl
theorem spl_jn {c : UInt8} : ∀ {xs : List (List UInt8)} {x : List UInt8}, (∀ y ∈ x :: xs, c ∉ y) → spl c (jn c (x :: xs)) = x :: xs
  | [], x, h => by
    show spl c (x ++ []) = _
    rw [List.append_nil]; exact spl_one (h x List.mem_cons_self)
  | y :: xs, x, h => by
    show spl c (x ++ (c :: y ++ xs.flatMap fun z => c :: z)) = _
    rw [List.cons_append, spl_app _ (h x List.mem_cons_self)]
    exact congrArg (x :: ·) (spl_jn (xs := xs) (x := y) fun z hz => h z (List.mem_cons_of_mem _ hz))
/-- The kit's pieces are these. -/
theorem index_spl {c : UInt8} : ∀ (l : List UInt8), (Lib.index l [c] = -1 ∧ spl c l = [l] ∧ c ∉ l) ∨ ∃ (i : Nat), Lib.index l [c] = i ∧ spl c l = l.take i :: spl c (l.drop (i + 1)) ∧ i < l.length ∧ c ∉ l.take i ∧ l.drop i = c :: l.drop (i + 1)
  | [] => .inl ⟨rfl, rfl, by simp⟩
  | b :: l => by
    by_cases hb : b = c
    · subst hb
      exact .inr ⟨0, by simp [Lib.index], by simp [spl], by simp, by simp, by simp⟩
    · have hp : ([c] : List UInt8).isPrefixOf (b :: l) = false := by simp [List.isPrefixOf, Ne.symm hb]
      have hix : Lib.index (b :: l) [c] = if Lib.index l [c] == -1 then -1 else Lib.index l [c] + 1 := by rw [Lib.index, hp]; simp
      rcases index_spl (c := c) l with ⟨h1, h2, h3⟩ | ⟨i, h1, h2, h3, h4, h5⟩
      · refine .inl ⟨by rw [hix, h1]; rfl, by rw [spl, if_neg hb, h2]; rfl, ?_⟩
        intro e
        rcases List.mem_cons.1 e with e | e
        · exact hb e.symm
        · exact h3 e
      · refine .inr ⟨i + 1, ?_, by rw [spl, if_neg hb, h2]; rfl, by simp; omega, ?_, by simpa using h5⟩
        · rw [hix, h1, if_neg (by simp)]; omega
        · rw [List.take_succ_cons]
          intro e
          rcases List.mem_cons.1 e with e | e
          · exact hb e.symm
          · exact h4 e
theorem splitK_spl {c : UInt8} : ∀ (k : Nat) (l : List UInt8), Lib.count l [c] = k → Lib.splitK [c] 0 k l = spl c l
  | 0, l, h => by
    rcases index_spl (c := c) l with ⟨h1, h2, h3⟩ | ⟨i, h1, _, _, _, _⟩
    · rw [h2]; rfl
    · rw [Lib.count_hit (by simp) h1] at h; omega
  | k + 1, l, h => by
    rcases index_spl (c := c) l with ⟨h1, _, _⟩ | ⟨i, h1, h2, _, _, _⟩
    · rw [Lib.count_miss h1] at h; omega
    · rw [Lib.count_hit (by simp) h1] at h
      have e2 : Lib.count (l.drop (i + [c].length)) [c] = k := by omega
      have ih := splitK_spl (c := c) k _ e2
      unfold Lib.splitK
      rw [h1, if_neg (by simp), h2]
      show l.take (i + 0) :: Lib.splitK [c] 0 k (l.drop (i + [c].length)) = _
      rw [ih, Nat.add_zero]
      rfl
theorem splitB_spl (c : UInt8) (s : ByteArray) : (Lib.splitB ⟨#[c]⟩ 0 (Lib.countB s ⟨#[c]⟩) s).map (·.data.toList) = spl c s.data.toList := by
  rw [Lib.splitB_data]
  exact splitK_spl _ _ rfl
/-- The kit's cut, by pieces. -/
theorem cut_hit {c : UInt8} {x y : List UInt8} (h : c ∉ x) : Lib.cut (x ++ c :: y) [c] = (x, y, true) := by
  rcases index_spl (c := c) (x ++ c :: y) with ⟨_, _, h3⟩ | ⟨i, h1, h2, _, h4, h5⟩
  · exact absurd (List.mem_append_right _ List.mem_cons_self) h3
  · rw [spl_app y h] at h2
    obtain ⟨e1, e2⟩ := List.cons.inj h2
    have hy : y = (x ++ c :: y).drop (i + 1) := by
      have := congrArg (jn c) e2
      rwa [jn_spl, jn_spl] at this
    unfold Lib.cut
    rw [h1, if_pos (by omega)]
    simp only [Int.toNat_natCast, List.length_cons, List.length_nil]
    rw [← e1, ← hy]
theorem cut_true {c : UInt8} {l a b : List UInt8} (h : Lib.cut l [c] = (a, b, true)) : l = a ++ c :: b := by
  unfold Lib.cut at h
  rcases index_spl (c := c) l with ⟨h1, _, _⟩ | ⟨i, h1, h2, h3, _, h5⟩
  · rw [h1, if_neg (by omega)] at h; cases h
  · rw [h1, if_pos (by omega)] at h
    simp only [Prod.mk.injEq, Int.toNat_natCast, List.length_cons, List.length_nil] at h
    obtain ⟨rfl, rfl, -⟩ := h
    have : l.take i ++ l.drop i = l := List.take_append_drop i l
    rw [h5] at this
    exact this.symm
/-- Numerals are of digits. -/
theorem dec_digit (u : Nat) : ∀ b ∈ Lib.decDigits u, ∃ d < 10, b = UInt8.ofNat (48 + d) := by
  induction u using Nat.strongRecOn with
  | _ u ih =>
    intro b hb
    rw [Lib.decDigits] at hb
    split at hb
    · rename_i h
      exact ⟨u, h, List.mem_singleton.1 hb⟩
    · rename_i h
      rcases List.mem_append.1 hb with hb | hb
      · exact ih (u / 10) (by omega) b hb
      · exact ⟨u % 10, by omega, List.mem_singleton.1 hb⟩
theorem digit_nat {d : Nat} (h : d < 10) : (UInt8.ofNat (48 + d)).toNat = 48 + d := by
  rw [UInt8.toNat_ofNat']; omega
theorem dec_not {u : Nat} {c : UInt8} (hc : c.toNat < 48 ∨ 57 < c.toNat) : c ∉ Lib.decDigits u := fun e => by
  obtain ⟨d, hd, rfl⟩ := dec_digit u c e
  rw [digit_nat hd] at hc; omega
theorem itoa_nonneg {n : Int} (h : 0 ≤ n) : Lib.itoa n = Lib.decDigits n.toNat := if_neg (by omega)
theorem itoa_not {n : Int} (h : 0 ≤ n) {c : UInt8} (hc : c.toNat < 48 ∨ 57 < c.toNat) : c ∉ Lib.itoa n := by
  rw [itoa_nonneg h]; exact dec_not hc
theorem dec_ne (u : Nat) : Lib.decDigits u ≠ [] := by
  rw [Lib.decDigits]; split <;> simp
/-- What Atoi reads of a numeral. -/
theorem parse_app : ∀ (l m : List UInt8) (acc u : Nat), Lib.parseUint10 acc l = .ok u → Lib.parseUint10 acc (l ++ m) = Lib.parseUint10 u m
  | [], m, acc, u, h => by
    simp only [Lib.parseUint10, Lib.NumEnd.ok.injEq] at h
    rw [List.nil_append, h]
  | c :: l, m, acc, u, h => by
    rw [List.cons_append]
    simp only [Lib.parseUint10] at h ⊢
    split at h
    · rename_i h1
      rw [if_pos h1]
      split at h
      · cases h
      · rename_i h2
        rw [if_neg h2]
        split at h
        · cases h
        · rename_i h3
          rw [if_neg h3]
          exact parse_app l m _ u h
    · cases h
theorem parse_digit {a d : Nat} (hd : d < 10) (ha : a < 1000000000000000) : Lib.parseUint10 a [UInt8.ofNat (48 + d)] = .ok (a * 10 + d) := by
  simp only [Lib.parseUint10]
  rw [digit_nat hd, if_pos (by omega), if_neg (by omega), if_neg (by omega)]
  congr 1; omega
theorem parse_dec (u : Nat) (hu : u < 1000000000000000) : Lib.parseUint10 0 (Lib.decDigits u) = .ok u := by
  induction u using Nat.strongRecOn with
  | _ u ih =>
    rw [Lib.decDigits]
    split
    · rename_i h
      rw [parse_digit h (by omega)]; congr 1; omega
    · rename_i h
      rw [parse_app _ _ _ _ (ih (u / 10) (by omega) (by omega)), parse_digit (by omega) (by omega)]
      congr 1; omega
theorem atoi_itoa {n : Int} (h0 : 0 ≤ n) (h1 : n < 1000000000000000) : Lib.atoiAll (Lib.itoa n) = .ok n := by
  rw [itoa_nonneg h0]
  obtain ⟨c, r, e⟩ := List.exists_cons_of_ne_nil (dec_ne n.toNat)
  obtain ⟨d, hd, hc⟩ := dec_digit n.toNat c (by rw [e]; exact List.mem_cons_self)
  have hcn : c.toNat = 48 + d := by rw [hc, digit_nat hd]
  have hp := parse_dec n.toNat (by omega)
  rw [e] at hp ⊢
  unfold Lib.atoiAll
  simp only
  rw [if_neg (by omega)]
  unfold Lib.parseMag
  rw [if_neg (by simp), hp]
  simp only
  rw [if_neg (by omega), if_neg (by omega), if_neg (by omega)]
  congr 1; omega
/-- A count, as the program reads it: the numeral and nothing else. -/
def cntT (l : List UInt8) : Option Int := match Lib.atoiAll l with | .ok v => if Lib.itoa v = l then some v else none | _ => none
theorem cntT_some {l : List UInt8} {v : Int} (h : cntT l = some v) : Lib.itoa v = l := by
  unfold cntT at h
  split at h
  · split at h
    · rename_i e; injection h with h; rw [← h]; exact e
    · cases h
  · cases h
theorem cntT_itoa {n : Int} (h0 : 0 ≤ n) (h1 : n ≤ 1048576) : cntT (Lib.itoa n) = some n := by
  unfold cntT
  rw [atoi_itoa h0 (by omega)]
  exact if_pos rfl
/-- One entry as the program reads it. -/
def entT (t : List UInt8) : Option Sh := if (Lib.cut t [61]).2.2 = true then (cntT (Lib.cut t [61]).1).bind fun d => (cntT (Lib.cut t [61]).2.1).map fun w => ⟨d, w⟩ else none
def txE (s : Sh) : List UInt8 := Lib.itoa s.day ++ [61] ++ Lib.itoa s.wt
theorem entT_some {t : List UInt8} {s : Sh} (h : entT t = some s) : txE s = t := by
  unfold entT at h
  split at h
  · rename_i hc
    obtain ⟨d, h1, h2⟩ := Option.bind_eq_some_iff.1 h
    obtain ⟨w, h3, rfl⟩ := Option.map_eq_some_iff.1 h2
    have := cut_true (l := t) (c := 61) (a := (Lib.cut t [61]).1) (b := (Lib.cut t [61]).2.1) (by rw [← hc])
    unfold txE
    simp only
    rw [cntT_some h1, cntT_some h3, List.append_assoc]
    exact this.symm
  · cases h
theorem entT_tx {s : Sh} (h : (0 ≤ s.day ∧ s.day ≤ 1048576) ∧ (0 ≤ s.wt ∧ s.wt ≤ 1048576)) : entT (txE s) = some s := by
  have hc : Lib.cut (txE s) [61] = (Lib.itoa s.day, Lib.itoa s.wt, true) := by
    unfold txE
    rw [List.append_assoc]
    exact cut_hit (itoa_not h.1.1 (.inr (by decide)))
  unfold entT
  rw [hc, if_pos rfl, cntT_itoa h.1.1 h.1.2, cntT_itoa h.2.1 h.2.2]
  rfl
/-- All of a list, or nothing. -/
def allT {α β : Type} (f : α → Option β) : List α → Option (List β)
  | [] => some []
  | x :: xs => (f x).bind fun y => (allT f xs).map fun ys => y :: ys
theorem allT_some {α β : Type} {f : α → Option β} {g : β → α} (hg : ∀ x y, f x = some y → g y = x) : ∀ {l : List α} {m : List β}, allT f l = some m → m.map g = l
  | [], m, h => by
    simp only [allT, Option.some.injEq] at h
    rw [← h]; rfl
  | x :: xs, m, h => by
    simp only [allT] at h
    obtain ⟨y, h1, h2⟩ := Option.bind_eq_some_iff.1 h
    obtain ⟨ys, h3, rfl⟩ := Option.map_eq_some_iff.1 h2
    rw [List.map_cons, hg x y h1, allT_some hg h3]
theorem allT_map {α β : Type} {f : α → Option β} {g : β → α} : ∀ {m : List β}, (∀ y ∈ m, f (g y) = some y) → allT f (m.map g) = some m
  | [], _ => rfl
  | y :: ys, h => by
    rw [List.map_cons, allT, h y List.mem_cons_self, allT_map fun z hz => h z (List.mem_cons_of_mem _ hz)]
    rfl
/-- The pillow of six numbers and a log. -/
def mkP (l : List Int) (m : List Sh) : Pl := ⟨l.getD 0 0, l.getD 1 0, l.getD 2 0, l.getD 3 0, l.getD 4 0, l.getD 5 0, m⟩
def parB (s : List UInt8) : Option Pl :=
  if 7 ≤ (spl 32 s).length ∧ (spl 32 s).getD 0 [] = word then
    (allT cntT (((spl 32 s).drop 1).take 6)).bind fun l => (allT entT ((spl 32 s).drop 7)).map fun m => mkP l m
  else none
/-- What Parse reads of a text. -/
def parV (s : List UInt8) : Option Pl := (parB s).bind fun p => if pOk p then some p else none
theorem headN_mkP {l : List Int} (h : l.length = 6) (m : List Sh) : headN (mkP l m) = l := by
  match l, h with
  | [a, b, c, d, e, f], _ => rfl
theorem prV_jn (p : Pl) : prV p = jn 32 (word :: ((headN p).map Lib.itoa ++ p.log.map txE)) := by
  show _ = word ++ ((headN p).map Lib.itoa ++ p.log.map txE).flatMap fun y => 32 :: y
  unfold prV
  rw [List.flatMap_append, List.append_assoc, List.flatMap_map, List.flatMap_map]
  have e2 : p.log.flatMap txS = p.log.flatMap fun y => 32 :: txE y := by
    congr 1
  rw [e2]
  rfl
theorem parB_some {s : List UInt8} {p : Pl} (h : parB s = some p) : prV p = s := by
  unfold parB at h
  split at h
  · rename_i hc
    obtain ⟨l, h1, h2⟩ := Option.bind_eq_some_iff.1 h
    obtain ⟨m, h3, rfl⟩ := Option.map_eq_some_iff.1 h2
    have e1 := allT_some (g := Lib.itoa) (fun x y => cntT_some) h1
    have e2 := allT_some (g := txE) (fun x y => entT_some) h3
    have hl : l.length = 6 := by
      have := congrArg List.length e1
      rw [List.length_map, List.length_take, List.length_drop] at this
      omega
    rw [prV_jn, headN_mkP hl, show (mkP l m).log = m from rfl, e1, e2]
    have h0 : spl 32 s = word :: (spl 32 s).drop 1 := by
      obtain ⟨x, xs, e⟩ := List.exists_cons_of_ne_nil (spl_ne 32 s)
      rw [e] at hc ⊢
      rw [← hc.2]; rfl
    have h6 : ((spl 32 s).drop 1).take 6 ++ (spl 32 s).drop 7 = (spl 32 s).drop 1 := by
      have := List.take_append_drop 6 ((spl 32 s).drop 1)
      rwa [List.drop_drop] at this
    rw [h6, ← h0, jn_spl]
  · cases h
theorem head_bnd {p : Pl} (h : pOk p) : ∀ n ∈ headN p, 0 ≤ n ∧ n ≤ 1048576 := by
  have h1 := h.1
  unfold pHead at h1
  intro n hn
  unfold headN at hn
  simp only [List.mem_cons, List.not_mem_nil, or_false] at hn
  rcases hn with rfl | rfl | rfl | rfl | rfl | rfl <;> omega
theorem log_bnd {p : Pl} (h : pOk p) : ∀ s ∈ p.log, (0 ≤ s.day ∧ s.day ≤ 1048576) ∧ (0 ≤ s.wt ∧ s.wt ≤ 1048576) := fun s hs => by
  obtain ⟨j, hj, rfl⟩ := List.mem_iff_getElem.1 hs
  have := h.2 j hj
  unfold logOk at this
  rw [List.getD_eq_getElem?_getD, List.getElem?_eq_getElem hj] at this
  simp only [Option.getD_some] at this
  omega
theorem word_not : (32 : UInt8) ∉ word := by decide
theorem spl_prV {p : Pl} (h : pOk p) : spl 32 (prV p) = word :: ((headN p).map Lib.itoa ++ p.log.map txE) := by
  rw [prV_jn]
  refine spl_jn fun y hy => ?_
  rcases List.mem_cons.1 hy with rfl | hy
  · exact word_not
  · rcases List.mem_append.1 hy with hy | hy
    · obtain ⟨n, hn, rfl⟩ := List.mem_map.1 hy
      exact itoa_not (head_bnd h n hn).1 (.inl (by decide))
    · obtain ⟨s, hs, rfl⟩ := List.mem_map.1 hy
      have hb := log_bnd h s hs
      unfold txE
      intro e
      rcases List.mem_append.1 e with e | e
      · rcases List.mem_append.1 e with e | e
        · exact itoa_not hb.1.1 (.inl (by decide)) e
        · exact absurd e (by decide)
      · exact itoa_not hb.2.1 (.inl (by decide)) e
theorem parB_pr {p : Pl} (h : pOk p) : parB (prV p) = some p := by
  unfold parB
  have hl : (headN p).length = 6 := rfl
  rw [spl_prV h, if_pos ⟨by simp [hl], rfl⟩]
  have e1 : ((word :: ((headN p).map Lib.itoa ++ p.log.map txE)).drop 1).take 6 = (headN p).map Lib.itoa := by
    rw [List.drop_one, List.tail_cons, List.take_left' (by simp [hl])]
  have e2 : (word :: ((headN p).map Lib.itoa ++ p.log.map txE)).drop 7 = p.log.map txE := by
    rw [List.drop_succ_cons, List.drop_left' (by simp [hl])]
  rw [e1, e2, allT_map fun n hn => cntT_itoa (head_bnd h n hn).1 (head_bnd h n hn).2, allT_map fun s hs => entT_tx (log_bnd h s hs)]
  rfl
theorem parV_some {s : List UInt8} {p : Pl} : parV s = some p ↔ pOk p ∧ prV p = s := by
  constructor
  · intro h
    unfold parV at h
    obtain ⟨q, h1, h2⟩ := Option.bind_eq_some_iff.1 h
    split at h2
    · rename_i hq
      injection h2 with h2
      subst h2
      exact ⟨hq, parB_some h1⟩
    · cases h2
  · rintro ⟨h, rfl⟩
    unfold parV
    rw [parB_pr h]
    exact if_pos h
/-- The numbers of a text. -/
def numS (z : List Int × Bool) (b : UInt8) : List Int × Bool :=
  if b.toNat < 48 ∨ 57 < b.toNat then (z.1, false)
  else ((if z.2 then z.1 else z.1 ++ [0]).dropLast ++ [min ((if z.2 then z.1 else z.1 ++ [0]).getLastD 0 * 10 + (b.toNat : Int) - 48) 1073741824], true)
def numV (s : List UInt8) : List Int := (s.foldl numS ([], false)).1
theorem numS_not {x : List UInt8} (h : ∀ b ∈ x, b.toNat < 48 ∨ 57 < b.toNat) (z : List Int × Bool) (hx : x ≠ []) : x.foldl numS z = (z.1, false) := by
  induction x generalizing z with
  | nil => exact absurd rfl hx
  | cons b x ih =>
    have h1 : numS z b = (z.1, false) := if_pos (h b List.mem_cons_self)
    rw [List.foldl_cons, h1]
    by_cases hx : x = []
    · subst hx; rfl
    · exact ih (fun c hc => h c (List.mem_cons_of_mem _ hc)) _ hx
theorem numS_dec (u : Nat) (hu : u ≤ 1048576) (l : List Int) : (Lib.decDigits u).foldl numS (l, false) = (l ++ [(u : Int)], true) := by
  induction u using Nat.strongRecOn with
  | _ u ih =>
    rw [Lib.decDigits]
    split
    · rename_i h
      show numS (l, false) _ = _
      unfold numS
      rw [digit_nat h, if_neg (by omega)]
      simp only [Bool.false_eq_true, if_false, List.dropLast_concat, List.getLastD_concat]
      congr 3
      omega
    · rename_i h
      rw [List.foldl_append, ih (u / 10) (by omega) (by omega)]
      show numS (l ++ [((u / 10 : Nat) : Int)], true) _ = _
      unfold numS
      rw [digit_nat (by omega), if_neg (by omega)]
      simp only [if_true, List.dropLast_concat, List.getLastD_concat]
      congr 3
      omega
theorem numS_itoa {n : Int} (h : 0 ≤ n ∧ n ≤ 1048576) (l : List Int) : (Lib.itoa n).foldl numS (l, false) = (l ++ [n], true) := by
  rw [itoa_nonneg h.1, numS_dec _ (by omega)]
  congr 3
  omega
theorem numS_heads : ∀ (l : List Int) (k : List Int) (b : Bool), (∀ n ∈ l, 0 ≤ n ∧ n ≤ 1048576) → ((l.flatMap txN).foldl numS (k, b)).1 = k ++ l
  | [], k, b, _ => by simp
  | n :: l, k, b, h => by
    rw [List.flatMap_cons, List.foldl_append]
    unfold txN
    rw [List.foldl_append, numS_not (x := [32]) (by decide) _ (by simp), numS_itoa (h n List.mem_cons_self)]
    have := numS_heads l (k ++ [n]) true fun m hm => h m (List.mem_cons_of_mem _ hm)
    unfold txN at this
    rw [this]; simp
def pairN (s : Sh) : List Int := [s.day, s.wt]
theorem numS_log : ∀ (l : List Sh) (k : List Int) (b : Bool), (∀ s ∈ l, (0 ≤ s.day ∧ s.day ≤ 1048576) ∧ (0 ≤ s.wt ∧ s.wt ≤ 1048576)) → ((l.flatMap txS).foldl numS (k, b)).1 = k ++ l.flatMap pairN
  | [], k, b, _ => by simp
  | s :: l, k, b, h => by
    rw [List.flatMap_cons, List.foldl_append]
    have hs := h s List.mem_cons_self
    unfold txS
    rw [List.foldl_append, List.foldl_append, List.foldl_append, numS_not (x := [32]) (by decide) _ (by simp), numS_itoa hs.1, numS_not (x := [61]) (by decide) _ (by simp), numS_itoa hs.2]
    have := numS_log l (k ++ [s.day] ++ [s.wt]) true fun m hm => h m (List.mem_cons_of_mem _ hm)
    unfold txS at this
    rw [this]; simp [pairN]
theorem numV_pr {p : Pl} (h : pOk p) : numV (prV p) = headN p ++ p.log.flatMap pairN := by
  unfold numV prV
  rw [List.foldl_append, List.foldl_append, numS_not (x := word) (by decide) _ (by decide)]
  have h1 := numS_heads (headN p) [] false (head_bnd h)
  obtain ⟨⟨k, b⟩, e⟩ : ∃ z, z = ((headN p).flatMap txN).foldl numS ([], false) := ⟨_, rfl⟩
  rw [← e] at h1 ⊢
  rw [numS_log p.log k b (log_bnd h)]
  simp only [List.nil_append] at h1
  rw [h1]
/-- Pairs of a list of numbers. -/
def pairs : List Int → List Sh
  | a :: b :: l => ⟨a, b⟩ :: pairs l
  | _ => []
theorem pairs_pairN : ∀ l : List Sh, pairs (l.flatMap pairN) = l
  | [] => rfl
  | s :: l => by
    show pairs (s.day :: s.wt :: l.flatMap pairN) = _
    rw [pairs, pairs_pairN l]
/-- The pillow that the reference tries. -/
def tryP (s : List UInt8) : Pl := mkP (numV s) (pairs ((numV s).drop 6))
theorem tryP_pr {p : Pl} (h : pOk p) : tryP (prV p) = p ∧ 6 ≤ (numV (prV p)).length := by
  unfold tryP
  rw [numV_pr h]
  refine ⟨?_, by rw [List.length_append, show (headN p).length = 6 from rfl]; omega⟩
  rw [List.drop_left' (show (headN p).length = 6 from rfl), pairs_pairN]
  rfl
theorem pr_len {p : Pl} (h : pOk p) : (prV p).length ≤ 1000 := by
  unfold prV
  have h1 := flatMap_len' (f := txN) (n := 11) (l := headN p) fun x hx => by
    have := itoa_len (head_bnd h x hx)
    unfold txN
    simp only [List.length_append, List.length_cons, List.length_nil]
    omega
  have h2 := flatMap_len' (f := txS) (n := 22) (l := p.log) fun x hx => by
    have hb := log_bnd h x hx
    have e1 := itoa_len hb.1
    have e2 := itoa_len hb.2
    unfold txS
    simp only [List.length_append, List.length_cons, List.length_nil]
    omega
  have h3 := h.1.2.2.2.2.2.2
  have h4 : (headN p).length = 6 := rfl
  have h5 : word.length = 6 := rfl
  rw [h4] at h1
  simp only [List.length_append]
  omega
/-- The reference reads the same. -/
theorem ref_par (s : List UInt8) : parV s = if s.length ≤ 1000 ∧ 6 ≤ (numV s).length ∧ pOk (tryP s) ∧ prV (tryP s) = s then some (tryP s) else none := by
  split
  · rename_i h
    exact parV_some.2 ⟨h.2.2.1, h.2.2.2⟩
  · rename_i h
    cases e : parV s with
    | none => rfl
    | some p =>
      exfalso
      obtain ⟨h1, rfl⟩ := parV_some.1 e
      obtain ⟨h2, h3⟩ := tryP_pr h1
      exact h ⟨pr_len h1, h3, by rw [h2]; exact h1, by rw [h2]⟩
end Go.Proofs.YtaahjlhfmkjefaaGreatDoor
/- strings.Split, strings.Cut, strconv.Atoi as calls of the logic. -/
namespace Go.Proofs.YtaahjlhfmkjefaaGreatDoor
open Go Go.Gv Go.Sort Go.RowKit
set_option maxRecDepth 100000
set_option maxHeartbeats 8000000
set_option linter.unusedSimpArgs false
set_option linter.unusedVariables false
theorem below_step {h : View} {O : Hp} {w w' : World} (hv : Val h O w) (hb : Below w.heap.size w w') : Step h O w h O w' :=
  ⟨hb.os, hb.tape, hb.output, fun _ _ e => e, ⟨fun b o e => by rw [hb.block b (hv.ltv e)]; exact hv.per b o e, fun b o m => by rw [hb.block b (hv.lt m)]; exact hv.own b o m, hv.nodup, hv.apart⟩, hb.size, fun b h1 _ => hb.block b h1, fun _ e => .inl e, fun b o m => .inr ⟨o, m⟩⟩
theorem below_bytes (w : World) (t : ByteArray) : Below w.heap.size w (Lib.bytesWorld w 5 t) := by
  unfold Lib.bytesWorld
  refine Below.trans (b := w.drew.alloc (.cells (Lib.bytesCells w 5 t) 5)) ((Below.refl w.heap.size w).drew.alloc (Nat.le_refl _) _) ⟨rfl, rfl, rfl, by simp [World.freeze], fun k hk => ?_⟩
  show ((w.drew.alloc (.cells (Lib.bytesCells w 5 t) 5)).freeze ⟨w.heap.size, (Lib.bytesCells w 5 t).size, none⟩ 1).heap[k]? = _
  unfold World.freeze
  rw [if_neg (by decide), Array.getElem?_modify, if_neg (by show ¬ w.heap.size = k; omega)]
/-- The library's variables, told of the view. -/
def VarV (h : View) : Prop := ∀ w : World, (∀ b o, h b = some o → w.heap[b]? = some o) →
  (∃ m, w.cell? ⟨0, 0, none⟩ = some (.int .i64 m)) ∧ (∃ ev, w.cell? ⟨2, 0, none⟩ = some ev ∧ (ev = .nilIface ∨ ∃ te pe, ev = .iface te pe)) ∧ (∃ ev, w.cell? ⟨3, 0, none⟩ = some ev ∧ (ev = .nilIface ∨ ∃ te pe, ev = .iface te pe))
theorem VarV.mono {h h' : View} (H : VarV h) (hm : ∀ b o, h b = some o → h' b = some o) : VarV h' := fun w hw => H w fun b o e => hw b o (hm b o e)
theorem yn25 : ∃ fn, Tryz.prog.funcs[25]? = some fn ∧ fn.body.isSome = true ∧ (fn.name == "runtime.NumGoroutine") = false := ⟨_, Tryz.func25, by kernel_rfl, by kernel_rfl⟩
theorem yn27 : ∃ fn, Tryz.prog.funcs[27]? = some fn ∧ fn.body.isSome = true ∧ (fn.name == "runtime.NumGoroutine") = false := ⟨_, Tryz.func27, by kernel_rfl, by kernel_rfl⟩
theorem yn26 : ∃ fn, Tryz.prog.funcs[26]? = some fn ∧ fn.body.isSome = true ∧ (fn.name == "runtime.NumGoroutine") = false := ⟨_, Tryz.func26, by kernel_rfl, by kernel_rfl⟩
def stV (l : List UInt8) : List Value := [sV l]
theorem y25 (s : List UInt8) (hs : s.length < 4294967281) (h : View) (hx : VarV h) (O : Hp) : GSpec Tryz.prog 25 [sV s, sV [32]] h O (New O (LsR stV (spl 32 s))) := by
  refine ⟨yn25, fun w hv => ?_⟩
  obtain ⟨m, hm⟩ := (hx w hv.per).1
  refine Calls.mono (Tryz.strings_Split ⟨⟨s⟩⟩ ⟨#[32]⟩ m w hs hm (by decide)) ?_
  rintro e w' ⟨rfl, rfl⟩
  have hsp : (Lib.splitB ⟨#[32]⟩ 0 (Lib.countB ⟨⟨s⟩⟩ ⟨#[32]⟩) ⟨⟨s⟩⟩).map (·.data.toList) = spl 32 s := splitB_spl 32 ⟨⟨s⟩⟩
  have hlen : (spl 32 s).length = Lib.countB ⟨⟨s⟩⟩ ⟨#[32]⟩ + 1 := by
    rw [← hsp, List.length_map, Lib.splitB_all _ (by decide) 0 _ _ rfl]
  have hcell : (Lib.splitB ⟨#[32]⟩ 0 (Lib.countB ⟨⟨s⟩⟩ ⟨#[32]⟩) ⟨⟨s⟩⟩).map Value.string = (spl 32 s).flatMap stV := by
    rw [← hsp, show stV = fun l => [sV l] from rfl, flat_one, List.map_map]
    refine List.map_congr_left fun x _ => ?_
    obtain ⟨⟨l⟩⟩ := x
    rfl
  obtain ⟨st, h1, h2⟩ := Step.alloc (w' := w.alloc (.cells ((Lib.splitB ⟨#[32]⟩ 0 (Lib.countB ⟨⟨s⟩⟩ ⟨#[32]⟩) ⟨⟨s⟩⟩).map Value.string).toArray 9)) hv rfl rfl rfl rfl
  refine ⟨_, h, _, rfl, st, [(w.heap.size, _)], rfl, ?_⟩
  rw [hcell]
  exact ⟨_, _, by rw [hlen], Rd.own0 (List.Mem.head _), by rw [hlen]; exact Nat.le_refl _⟩
theorem y27 (s : List UInt8) (hs : s.length < 4294967281) (h : View) (hx : VarV h) (O : Hp) :
    GSpec Tryz.prog 27 [sV s, sV [61]] h O (Ret O (.tuple ⟨[sV (Lib.cut s [61]).1, sV (Lib.cut s [61]).2.1, .bool (Lib.cut s [61]).2.2]⟩)) := by
  refine ⟨yn27, fun w hv => ?_⟩
  obtain ⟨m, hm⟩ := (hx w hv.per).1
  refine Calls.mono (Tryz.strings_Cut ⟨⟨s⟩⟩ ⟨#[61]⟩ m w hs hm) ?_
  rintro e w' ⟨rfl, k, rfl⟩
  exact ⟨_, h, O, rfl, hv.drawn _, rfl, rfl⟩
/-- The number that the program's count hands back. -/
def cntN (l : List UInt8) : Int := match Lib.atoiAll l with | .ok v => v | .range => Lib.atoiSat l | .«syntax» => 0
theorem atoi_rng {l : List UInt8} {v : Int} (h : Lib.atoiAll l = .ok v) : i64 v := by
  unfold Lib.atoiAll at h
  split at h
  · cases h
  · simp only at h
    split at h
    · cases h
    · cases h
    · split at h
      · cases h
      · split at h
        · cases h
        · injection h with h
          rw [← h]
          constructor <;> split <;> omega
theorem below_one {w w1 : World} (h : w1 = w ∨ ∃ t, w1 = Lib.bytesWorld w 5 t) : Below w.heap.size w w1 := by
  rcases h with rfl | ⟨t, rfl⟩
  · exact Below.refl _ _
  · exact below_bytes _ _
theorem below_grow {B : Nat} {w w1 : World} (h : Below B w w1) (hB : B ≤ w1.heap.size) (k : Nat) (os : Array Obj) : Below B w (grow (w1.drewN k) os) :=
  h.trans ⟨rfl, rfl, rfl, by show w1.heap.size ≤ (w1.heap ++ os).size; simp, fun i hi => by
    show (w1.heap ++ os)[i]? = _
    rw [Array.getElem?_append_left (by omega)]⟩
theorem cnt26 (l : List UInt8) (hl : l.length ≤ 1048576) (w : World) (hx : (∃ ev, w.cell? ⟨2, 0, none⟩ = some ev ∧ (ev = .nilIface ∨ ∃ te pe, ev = .iface te pe)) ∧ (∃ ev, w.cell? ⟨3, 0, none⟩ = some ev ∧ (ev = .nilIface ∨ ∃ te pe, ev = .iface te pe)))
    (hp : ∀ w', Below w.heap.size w w' → Lib.TabIs Tryz.prog w' Tryz.powS .u64 Lib.pow10Tab) :
    Calls Tryz.prog 26 #[.string ⟨⟨l⟩⟩] w fun e w' => e = .returned (.tuple #[.int .i64 (cntN l), .bool (cntT l).isSome]) ∧ Below w.heap.size w w' := by
  have mixed := mixed
  obtain ⟨⟨ev, hev, hev'⟩, ⟨rv, hrv, hrv'⟩⟩ := hx
  cases hA : Lib.atoiAll l with
  | ok v =>
    have hN : cntN l = v := by unfold cntN; rw [hA]
    have hr := atoi_rng hA
    have hB : (cntT l).isSome = (Lib.itoa v == l) := by
      unfold cntT
      rw [hA]
      simp only
      split
      · rename_i e; rw [beq_iff_eq.2 e]; rfl
      · rename_i e; rw [beq_eq_false_iff_ne.2 e]; rfl
    rw [hN, hB]
    go_enter Tryz.func26, Tryz.ntmps26
    go_wp2_with (first
      | (go_at_call 43; refine (Tryz.strconv_Atoi_ok ⟨⟨l⟩⟩ (by show l.length ≤ _; omega) v hA _).mono ?_; rintro e w1 ⟨rfl, hw1⟩; have hb1 := below_one hw1)
      | (go_at_call 21; refine (Tryz.strconv_Itoa v hr.1 hr.2 _ (hp _ (by repeat (first | exact hb1 | apply Below.drew)))).mono ?_; rintro e w2 ⟨rfl, k, os, rfl⟩))
    first | go_ret2 | go_ret3
    exact ⟨rfl, below_grow hb1 hb1.size k os⟩
  | «syntax» =>
    have hN : cntN l = 0 := by unfold cntN; rw [hA]
    have hB : (cntT l).isSome = false := by unfold cntT; rw [hA]; rfl
    rw [hN, hB]
    go_enter Tryz.func26, Tryz.ntmps26
    go_wp2_with (go_at_call 43; refine (Tryz.strconv_Atoi_syntax ⟨⟨l⟩⟩ (by show l.length ≤ _; omega) hA ev _ hev hev').mono ?_; rintro e w1 ⟨N, rfl, h1, h2, hb1⟩)
    first | go_ret2 | go_ret3
    exact ⟨rfl, hb1⟩
  | range =>
    have hN : cntN l = Lib.atoiSat l := by unfold cntN; rw [hA]
    have hB : (cntT l).isSome = false := by unfold cntT; rw [hA]; rfl
    rw [hN, hB]
    go_enter Tryz.func26, Tryz.ntmps26
    go_wp2_with (go_at_call 43; refine (Tryz.strconv_Atoi_range ⟨⟨l⟩⟩ (by show l.length ≤ _; omega) hA rv _ hrv hrv').mono ?_; rintro e w1 ⟨N, rfl, h1, h2, hb1⟩)
    first | go_ret2 | go_ret3
    exact ⟨rfl, hb1⟩
theorem y26 (l : List UInt8) (hl : l.length ≤ 1048576) (h : View) (hx : VarV h) (hpw : PowV h) (O : Hp) : GSpec Tryz.prog 26 [sV l] h O (Ret O (.tuple ⟨[.int .i64 (cntN l), .bool (cntT l).isSome]⟩)) := by
  refine ⟨yn26, fun w hv => ?_⟩
  refine Calls.mono (cnt26 l hl w (hx w hv.per).2 fun w' hb => hpw w' fun b o e => ?_) ?_
  · rw [hb.block b (hv.ltv e)]; exact hv.per b o e
  · rintro e w' ⟨rfl, hb⟩
    exact ⟨_, h, O, rfl, below_step hv hb, rfl, rfl⟩
theorem cntN_some {l : List UInt8} {n : Int} (h : cntT l = some n) : cntN l = n := by
  unfold cntT at h
  unfold cntN
  split at h
  · rename_i v hv
    rw [hv]
    split at h
    · injection h
    · cases h
  · cases h
end Go.Proofs.YtaahjlhfmkjefaaGreatDoor
