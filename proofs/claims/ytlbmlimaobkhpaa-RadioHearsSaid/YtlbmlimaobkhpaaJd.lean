/- The program puts messages together. -/
import Derived.Test.YtlbmlimaobkhpaaJc
import Derived.Test.YtlbmlimaobkhpaaRf
import Derived.Test.YtlbmlimaobkhpaaGf
import Derived.Test.YtlbmlimaobkhpaaJb
set_option linter.unusedVariables false
set_option linter.unusedSimpArgs false
set_option linter.unusedSectionVars false
/- gather's maps: their keys; the maps in memory. -/
namespace Go.Proofs.Ytlbmlimaobkhpaa
open Go Go.Gv
set_option maxRecDepth 100000
set_option maxHeartbeats 8000000
set_option linter.unusedSimpArgs false
set_option linter.unusedVariables false
def kyV (k : Ky) : Value := .agg ⟨[.int .i64 k.1, .int .i64 k.2.1, .int .i64 k.2.2]⟩
def ptV (p : Int) : Value := .int .i64 p
def bkM (b : Nat) : Value := .map (some b)
theorem kyV_inj (a b : Ky) (h : kyV a = kyV b) : a = b := by
  obtain ⟨a1, a2, a3⟩ := a
  obtain ⟨b1, b2, b3⟩ := b
  simp [kyV] at h
  obtain ⟨h1, h2, h3⟩ := h
  rw [h1, h2, h3]
theorem ptV_inj (a b : Int) (h : ptV a = ptV b) : a = b := by
  simp [ptV] at h; exact h
def kyOk (k : Ky) : Prop := i64 k.1 ∧ i64 k.2.1 ∧ i64 k.2.2
theorem ky_of {k : Ky} (hk : kyOk k) : ∃ l, keyOf Try.prog 195 (kyV k) = some l := by
  have hu : Try.prog.underlying 195 = some (.struct #[{ name := "office", type := 3, offset := 0, embedded := false, tag := "", pkgPath := "snowline/radio", byteOffset := 0 }, { name := "no", type := 3, offset := 1, embedded := false, tag := "", pkgPath := "snowline/radio", byteOffset := 8 }, { name := "parts", type := 3, offset := 2, embedded := false, tag := "", pkgPath := "snowline/radio", byteOffset := 16 }]) := by kernel_rfl
  have hu3 : Try.prog.underlying 3 = some (.int .i64) := by kernel_rfl
  have hc : Try.prog.cellsOf 195 = 3 := by kernel_rfl
  have hc3 : Try.prog.cellsOf 3 = 1 := by kernel_rfl
  have hkt : Try.prog.keyType 195 = true := by kernel_rfl
  have hl : ∀ d, Try.prog.keyLits (d + 2) 195 [.int .i64 k.1, .int .i64 k.2.1, .int .i64 k.2.2] = some [.int .i64 k.1, .int .i64 k.2.1, .int .i64 k.2.2] := fun d => by
    simp [Program.keyLits, hu, hu3, hc, hc3, wf_int hk.1, wf_int hk.2.1, wf_int hk.2.2]
  have hs : Try.prog.types.size + 1 = (Try.prog.types.size - 1) + 2 := by
    have : 1 ≤ Try.prog.types.size := by decide +kernel
    omega
  refine ⟨.string (keyBytes [.int .i64 k.1, .int .i64 k.2.1, .int .i64 k.2.2]), ?_⟩
  unfold keyOf
  rw [hu]
  simp only [hkt, Value.formed, hu, hc, kyV, Bool.true_and, Value.cells]
  rw [hs, hl]
  rfl
theorem keyed195 : Maps.Keyed Try.prog 195 := Maps.Keyed.of_law (deep_law (m := 2) (by omega) (by kernel_rfl) (by kernel_rfl) (by kernel_rfl))
theorem keyed3 : Maps.Keyed Try.prog 3 := Maps.int_keyed (q := .i64) (by kernel_rfl)
theorem pt_of {p : Int} (hp : i64 p) : ∃ l, keyOf Try.prog 3 (ptV p) = some l := by
  have hu : Try.prog.underlying 3 = some (.int .i64) := by kernel_rfl
  refine ⟨.int .i64 p, ?_⟩
  unfold keyOf
  rw [hu]
  simp [mapKey, hu, ptV, wf_int hp]
theorem zero196 (w : World) : (zeroValue 196).run Try.prog w = .ok (.map none) w := by
  have : Try.prog.info? 196 = some (Try.prog.types[196]'(by decide +kernel)) := by kernel_rfl
  exact cellsOf_run this (by kernel_rfl) w
theorem zero9 (w : World) : (zeroValue 9).run Try.prog w = .ok (sV []) w := by
  have : Try.prog.info? 9 = some (Try.prog.types[9]'(by decide +kernel)) := by kernel_rfl
  exact cellsOf_run this (by kernel_rfl) w
/-! ### the maps as they lie -/
abbrev Qs := List (Ky × Nat × Bm)
def qO (Q : Qs) : List (Ky × Nat) := Q.map fun q => (q.1, q.2.1)
def qG (Q : Qs) : Gm := Q.map fun q => (q.1, q.2.2)
def qI (Q : Qs) : Hp := Q.map fun q => (q.2.1, mapObj ptV sV q.2.2)
theorem qI_app (A B : Qs) : qI (A ++ B) = qI A ++ qI B := List.map_append
theorem qI_cons (q : Ky × Nat × Bm) (B : Qs) : qI (q :: B) = (q.2.1, mapObj ptV sV q.2.2) :: qI B := rfl
theorem qO_keys (Q : Qs) : (qO Q).map Prod.fst = (qG Q).map Prod.fst := by simp [qO, qG]
theorem qO_none {Q : Qs} {k : Ky} : aget (qO Q) k = none ↔ aget (qG Q) k = none := by
  rw [← Option.not_isSome_iff_eq_none, ← Option.not_isSome_iff_eq_none, aget_key, aget_key, qO_keys]
theorem aget_nil_iff {κ α : Type} [DecidableEq κ] {l : List (κ × α)} {k : κ} : aget l k = none ↔ ∀ p ∈ l, p.1 ≠ k := by
  rw [← Option.not_isSome_iff_eq_none, aget_key]
  constructor
  · exact fun h p hp e => h (List.mem_map.2 ⟨p, hp, e⟩)
  · rintro h hm
    obtain ⟨p, hp, e⟩ := List.mem_map.1 hm
    exact h p hp e
theorem q_split {Q : Qs} {k : Ky} {b : Nat} (h : aget (qO Q) k = some b) : ∃ A m B, Q = A ++ (k, b, m) :: B := by
  unfold aget at h
  obtain ⟨p, hp, rfl⟩ := Option.map_eq_some_iff.1 h
  have h1 := List.find?_some hp
  have h2 := List.mem_of_find?_eq_some hp
  obtain ⟨⟨k', b', m⟩, hq, rfl⟩ := List.mem_map.1 h2
  have : k' = k := by simpa using h1
  subst this
  obtain ⟨A, B, rfl⟩ := List.append_of_mem hq
  exact ⟨A, m, B, rfl⟩
theorem nodup_split {A B : Qs} {k : Ky} {b : Nat} {m : Bm} (h : akeys (qG (A ++ (k, b, m) :: B))) : (∀ p ∈ A, p.1 ≠ k) ∧ (∀ p ∈ B, p.1 ≠ k) := by
  unfold akeys qG at h
  rw [List.map_map, List.map_append, List.map_cons, List.nodup_append] at h
  obtain ⟨h1, h2, h3⟩ := h
  rw [List.nodup_cons] at h2
  refine ⟨fun p hp e => h3 _ (List.mem_map.2 ⟨p, hp, rfl⟩) k (by simp) (by simpa using e), fun p hp e => h2.1 (List.mem_map.2 ⟨p, hp, by simpa using e⟩)⟩
theorem aput_split {α : Type} {κ : Type} [DecidableEq κ] : ∀ {A B : List (κ × α)} {k : κ} {x y : α}, (∀ p ∈ A, p.1 ≠ k) → aput (A ++ (k, x) :: B) k y = A ++ (k, y) :: B
  | [], B, k, x, y, _ => by simp [aput]
  | (a, z) :: A, B, k, x, y, h => by
    rw [List.cons_append, aput, if_neg (h (a, z) List.mem_cons_self), aput_split fun p hp => h p (List.mem_cons_of_mem _ hp)]; rfl
theorem aget_split {α : Type} {κ : Type} [DecidableEq κ] : ∀ {A B : List (κ × α)} {k : κ} {x : α}, (∀ p ∈ A, p.1 ≠ k) → aget (A ++ (k, x) :: B) k = some x
  | [], B, k, x, _ => by simp [aget]
  | (a, z) :: A, B, k, x, h => by
    have := aget_split (B := B) (x := x) fun p hp => h p (List.mem_cons_of_mem _ hp)
    unfold aget at this ⊢
    rw [List.cons_append, List.find?_cons_of_neg (by simpa using h (a, z) List.mem_cons_self)]
    exact this
/-- A group that was there. -/
theorem qG_old {A B : Qs} {f : Fr} {b : Nat} {m : Bm} (h : akeys (qG (A ++ (kyF f, b, m) :: B))) : qG (A ++ (kyF f, b, bIns m f) :: B) = gIns (qG (A ++ (kyF f, b, m) :: B)) f := by
  have hA := (nodup_split h).1
  have hA' : ∀ p ∈ qG A, p.1 ≠ kyF f := fun p hp => by
    obtain ⟨q, hq, rfl⟩ := List.mem_map.1 hp
    exact hA q hq
  have e : ∀ m, qG (A ++ (kyF f, b, m) :: B) = qG A ++ (kyF f, m) :: qG B := fun m => by simp [qG]
  rw [e, e]
  unfold gIns
  rw [aget_split hA', Option.getD_some, aput_split hA']
/-- A new group. -/
theorem qG_new {Q : Qs} {f : Fr} {b : Nat} (h : aget (qG Q) (kyF f) = none) : qG (Q ++ [(kyF f, b, bIns [] f)]) = gIns (qG Q) f := by
  unfold gIns
  rw [h, Option.getD_none, aput_no (aget_nil_iff.1 h)]
  simp [qG]
theorem qO_old {A B : Qs} {k : Ky} {b : Nat} {m m' : Bm} : qO (A ++ (k, b, m') :: B) = qO (A ++ (k, b, m) :: B) := by simp [qO]
theorem qO_new {Q : Qs} {k : Ky} {b : Nat} {m : Bm} (h : aget (qO Q) k = none) : aput (qO Q) k b = qO (Q ++ [(k, b, m)]) := by
  rw [aput_no (aget_nil_iff.1 h)]
  simp [qO]
theorem qO_akeys {Q : Qs} (h : akeys (qG Q)) : akeys (qO Q) := by
  unfold akeys at h ⊢
  rw [qO_keys]; exact h
theorem gMap_succ {l : List Fr} {i : Nat} (h : i < l.length) : gMap (l.take (i + 1)) = gIns (gMap (l.take i)) (l.getD i default) := by
  unfold gMap
  rw [take_succ (d := default) h, List.foldl_append]; rfl
/-- What holds of the maps in memory. -/
structure QOk (Q : Qs) (l : List Fr) : Prop where
  g : qG Q = gMap l
  ok : GmOk (gMap l)
theorem QOk.keys {Q : Qs} {l : List Fr} (h : QOk Q l) : akeys (qO Q) := qO_akeys (by rw [h.g]; exact h.ok.keys)
theorem GmOk.kyOk {m : Gm} (h : GmOk m) {k : Ky} (hk : k ∈ m.map Prod.fst) : kyOk k := by
  obtain ⟨b, hb⟩ := Option.isSome_iff_exists.1 (aget_key.2 hk)
  obtain ⟨-, -, -, h4, h5, h6, h7⟩ := h.inner k b hb
  exact ⟨⟨by omega, by omega⟩, ⟨by omega, by omega⟩, ⟨by omega, by omega⟩⟩
theorem kyF_ok {f : Fr} (hf : frOk f) : kyOk (kyF f) := by
  obtain ⟨a1, a2, a3, a4, a5, a6, -⟩ := hf
  exact ⟨⟨by show _ ≤ f.office; omega, by show f.office ≤ _; omega⟩, ⟨by show _ ≤ f.no; omega, by show f.no ≤ _; omega⟩, ⟨by show _ ≤ f.parts; omega, by show f.parts ≤ _; omega⟩⟩
theorem QOk.okeys {Q : Qs} {l : List Fr} (h : QOk Q l) {k : Ky} (hk : kyOk k) : ∀ q, q = k ∨ q ∈ (qO Q).map Prod.fst → ∃ l, keyOf Try.prog 195 (kyV q) = some l := by
  rintro q (rfl | hq)
  · exact ky_of hk
  · rw [qO_keys, h.g] at hq
    exact ky_of (h.ok.kyOk hq)
theorem QOk.mem {A B : Qs} {k : Ky} {b : Nat} {m : Bm} {l : List Fr} (h : QOk (A ++ (k, b, m) :: B) l) : aget (gMap l) k = some m := by
  rw [← h.g]
  have hk : akeys (qG (A ++ (k, b, m) :: B)) := by rw [h.g]; exact h.ok.keys
  refine (aget_mem hk).1 ?_
  simp [qG]
theorem QOk.pkeys {A B : Qs} {k : Ky} {b : Nat} {m : Bm} {l : List Fr} (h : QOk (A ++ (k, b, m) :: B) l) {p : Int} (hp : i64 p) : ∀ q, q = p ∨ q ∈ m.map Prod.fst → ∃ l, keyOf Try.prog 3 (ptV q) = some l := by
  obtain ⟨-, h2, -, -, -, -, h7⟩ := h.ok.inner k m h.mem
  rintro q (rfl | hq)
  · exact pt_of hp
  · have := h2 q hq
    exact pt_of ⟨by omega, by omega⟩
theorem QOk.pakeys {A B : Qs} {k : Ky} {b : Nat} {m : Bm} {l : List Fr} (h : QOk (A ++ (k, b, m) :: B) l) : akeys m := (h.ok.inner k m h.mem).1
theorem QOk.nil : QOk [] [] := ⟨rfl, gMap_ok fun f hf => by cases hf⟩
theorem QOk.old {A B : Qs} {f : Fr} {b : Nat} {m : Bm} {l : List Fr} {i : Nat} (hi : i < l.length) (hf : l.getD i default = f) (ho : frOk f) (h : QOk (A ++ (kyF f, b, m) :: B) (l.take i)) : QOk (A ++ (kyF f, b, bIns m f) :: B) (l.take (i + 1)) := by
  refine ⟨?_, ?_⟩
  · rw [qG_old (by rw [h.g]; exact h.ok.keys), h.g, gMap_succ hi, hf]
  · rw [gMap_succ hi, hf]; exact h.ok.ins ho
theorem QOk.new {Q : Qs} {f : Fr} {b : Nat} {l : List Fr} {i : Nat} (hi : i < l.length) (hf : l.getD i default = f) (ho : frOk f) (h : QOk Q (l.take i)) (hn : aget (qO Q) (kyF f) = none) : QOk (Q ++ [(kyF f, b, bIns [] f)]) (l.take (i + 1)) := by
  refine ⟨?_, ?_⟩
  · rw [qG_new (qO_none.1 hn), h.g, gMap_succ hi, hf]
  · rw [gMap_succ hi, hf]; exact h.ok.ins ho
end Go.Proofs.Ytlbmlimaobkhpaa
/- gather: what is put together, in order, each thing once. -/
namespace Go.Proofs.Ytlbmlimaobkhpaa
open Go Go.Gv
set_option maxRecDepth 100000
set_option maxHeartbeats 8000000
set_option linter.unusedSimpArgs false
set_option linter.unusedVariables false
theorem perm1 {α : Type} (x m : α) (A O : List α) : (x :: m :: (A ++ O)).Perm (m :: ((A ++ [x]) ++ O)) :=
  (List.Perm.swap _ _ _).trans (List.Perm.cons _ (by rw [List.append_assoc]; exact List.perm_middle.symm))
theorem part_ok {f : Fr} (hf : frOk f) : i64 f.part := by
  obtain ⟨a1, a2, a3, a4, a5, a6, a7, a8, -⟩ := hf
  exact ⟨by omega, by omega⟩
/-! ### the maps gone through -/
theorem joinP_succ (get : Int → Option Str) (n : Nat) : joinP get (n + 1) = joinP get n ++ (get (n : Int)).getD [] := by
  unfold joinP
  rw [List.range_succ, List.flatMap_append]
  simp
theorem joinP_len {get : Int → Option Str} (hg : ∀ p : Nat, ((get (p : Int)).getD []).length ≤ 32) : ∀ n : Nat, (joinP get n).length ≤ 32 * n
  | 0 => by simp [joinP]
  | n + 1 => by
    rw [joinP_succ, List.length_append]
    have := joinP_len hg n
    have := hg n
    omega
theorem leastB_len {l : List Fr} (hl : ∀ f ∈ l, frOk f) (k : Ky) (p : Int) : ((leastB l k p).getD []).length ≤ 32 := by
  have key : ∀ (l : List Fr) (o : Option Str), (∀ f ∈ l, frOk f) → (o.getD []).length ≤ 32 → ((l.foldl (fun acc f => if kyF f = k ∧ f.part = p then less1 acc f.body else acc) o).getD []).length ≤ 32 := by
    intro l
    induction l with
    | nil => exact fun o _ h => h
    | cons f l ih =>
      intro o hl ho
      rw [List.foldl_cons]
      refine ih _ (fun g hg => hl g (List.mem_cons_of_mem _ hg)) ?_
      split
      · obtain ⟨a1, a2, a3, a4, a5, a6, a7, a8, a9, -⟩ := hl f List.mem_cons_self
        unfold less1
        split
        · split
          · exact a9
          · exact ho
        · exact a9
      · exact ho
  exact key l none hl (by simp)
theorem gMap_len (l : List Fr) : (gMap l).length ≤ l.length := by
  have put : ∀ (m : Gm) (k : Ky) (b : Bm), (aput m k b).length ≤ m.length + 1 := by
    intro m k b
    induction m with
    | nil => simp [aput]
    | cons x m ih =>
      obtain ⟨a, y⟩ := x
      unfold aput
      split
      · simp
      · simp only [List.length_cons]; omega
  have key : ∀ (l : List Fr) (m : Gm), (l.foldl gIns m).length ≤ m.length + l.length := by
    intro l
    induction l with
    | nil => exact fun m => Nat.le_refl _
    | cons f l ih =>
      intro m
      rw [List.foldl_cons]
      have := ih (gIns m f)
      have := put m (kyF f) (bIns ((aget m (kyF f)).getD []) f)
      unfold gIns at *
      simp only [List.length_cons]; omega
  have := key l []
  simp only [List.length_nil, Nat.zero_add] at this
  exact this
/-- What an entry of the maps gives. -/
def entQ (Q : Qs) (j : Nat) : Option En := (Q[j]?).bind fun q => entG (q.1, q.2.2)
theorem range_filterMap {α β : Type} (φ : α → Option β) : ∀ Q : List α, (List.range Q.length).filterMap (fun j => (Q[j]?).bind φ) = Q.filterMap φ
  | [] => rfl
  | x :: Q => by
    rw [List.length_cons, List.range_succ_eq_map, List.filterMap_cons, List.filterMap_map, List.filterMap_cons]
    have ih := range_filterMap φ Q
    have e : ((fun j => ((x :: Q)[j]?).bind φ) ∘ Nat.succ) = fun j => (Q[j]?).bind φ := by funext j; simp
    rw [e, ih]
    simp
theorem entQ_all (Q : Qs) : (List.range Q.length).filterMap (entQ Q) = (qG Q).filterMap entG := by
  unfold qG
  rw [List.filterMap_map]
  exact range_filterMap (fun q : Ky × Nat × Bm => entG (q.1, q.2.2)) Q
theorem seen_perm {seen : List Nat} {n : Nat} (hd : seen.Nodup) (hlt : ∀ j ∈ seen, j < n) (hall : ∀ j < n, j ∈ seen) : seen.Perm (List.range n) := by
  rw [List.perm_ext_iff_of_nodup hd List.nodup_range]
  exact fun j => ⟨fun h => List.mem_range.2 (hlt j h), fun h => hall j (List.mem_range.1 h)⟩
theorem seen_len {seen : List Nat} {n : Nat} (hd : seen.Nodup) (hlt : ∀ j ∈ seen, j < n) : seen.length ≤ n := by
  have := nodup_sub seen (List.range n) hd fun j hj => List.mem_range.2 (hlt j hj)
  simpa using this
theorem qO_at {Q : Qs} {j : Nat} {k : Ky} {x : Nat} (h : (qO Q)[j]? = some (k, x)) : ∃ m, Q[j]? = some (k, x, m) := by
  unfold qO at h
  rw [List.getElem?_map] at h
  obtain ⟨⟨k', x', m⟩, hq, e⟩ := Option.map_eq_some_iff.1 h
  injection e with e1 e2
  subst e1 e2
  exact ⟨m, hq⟩
/-- What the sort leaves. -/
def SoR (B : Buf) (xs : List En) (v : Value) (O' : Hp) : Prop := ∃ ys : List En, ys.Perm xs ∧ ys.Pairwise (fun a b => ¬ ltE b a) ∧ O' = B.hp 70 (ys.flatMap enV)
theorem f136 (l : List Fr) (a : Option Addr) (c : Nat) (hl : ∀ f ∈ l, frOk f) (hn : l.length ≤ 4096) (h : View) (O : Hp) (hr : Rd h O a (l.flatMap frV)) :
    GSpec Try.prog 136 [.slice a l.length c] h O (New O (LsR enV (gatR l))) := by
  refine GSpec.enter (fn := Try.f136) Try.func136 rfl (by kernel_rfl) ?_
  repeat' (conv => whnf
           first
           | (with_reducible refine NextSt.mk ?_)
           | ((with_reducible refine AllocSt.mk ?_); intro _b _hb _hbO))
  obtain ⟨mb, hmb⟩ : ∃ x, x = _b := ⟨_, rfl⟩
  subst hmb
  refine LoopSt.fix [5, 6, 7, 8, 17, 18, 19, 20, 21, 22, 23, 24, 25, 26, 27, 28, 29, 30, 31, 32, 33, 34, 35, 36, 37, 38, 39, 40, 41, 42, 43, 44, 45, 46, 47, 48, 49, 50, 51, 52, 53, 54, 55, 56, 57, 58, 59] (fun ((i, Q) : Nat × Qs) => [(17, iN i)]) (fun (i, Q) => (mb, mapObj kyV bkM (qO Q)) :: (qI Q ++ O)) (fun (i, Q) => i ≤ l.length ∧ QOk Q (l.take i)) (fun (i, Q) => l.length - i) ((0, [])) _ (Wk.refl _ _) (rfl) ?_ ?_ ?_
  · repeat' (first | exact True.intro | refine And.intro ?_ ?_ | rfl | exact congrArg (Value.int _) (by omega) | exact congrArg (fun n => Value.slice _ n _) (by (try dsimp only); omega))
  · exact ⟨Nat.zero_le _, QOk.nil⟩
  · rintro ⟨i, Q⟩ d ⟨hi, hQ⟩
    dsimp only at hi hQ ⊢
    by_cases hil : i < l.length
    · obtain ⟨f, he⟩ : ∃ f, l.getD i default = f := ⟨_, rfl⟩
      have hf : frOk f := by
        have := hl _ (getD_mem (d := default) hil)
        rw [he] at this; exact this
      cases hg : aget (qO Q) (kyF f) with
      | none =>
        repeat' (conv => whnf
                 first
                 | (((with_reducible apply LoadSt.rdg (g := frV) (s := 5)); (· rfl); (· (repeat (first | with_reducible assumption | (with_reducible apply Buf.rd; with_reducible assumption) | (with_reducible apply Rd.appL; with_reducible assumption) | (with_reducible apply Rd.appL; with_reducible apply Buf.rd; with_reducible assumption) | with_reducible apply Rd.cons | with_reducible apply Rd.appR))); (· exact fun _ => rfl); (· decide); (· (first | omega | (simp only [List.length_map, List.length_append, List.length_cons, List.length_nil, List.length_take, List.length_drop, List.length_replicate, List.length_set] at *; omega))); rw [he]))
                 | (((apply LookSt.noneF (g := kyV) (v := bkM) (l := qO Q) (k := kyF f) (.map none)); (· (repeat (first | exact List.Mem.head _ | with_reducible apply List.mem_append_right | with_reducible apply List.mem_cons_of_mem))); (· rfl); (· exact keyed195); (· exact hQ.okeys (kyF_ok hf)); (· exact kyV_inj); (· exact hQ.keys); (· rfl); (· exact zero196); (· exact hg)))
                 | ((change OnBB (Option.isNone none) _; refine OnBB.tt ?_))
                 | (((apply MapUp.ownIn (g := kyV) (v := bkM) (l := qO Q) (k := kyF f) (x := _b)); (· (repeat (first | with_reducible exact Loc.hd | with_reducible exact Loc.last | with_reducible exact Loc.one | with_reducible apply Loc.tl | with_reducible apply Loc.skip))); (· rfl); (· exact keyed195); (· exact hQ.okeys (kyF_ok hf)); (· exact kyV_inj); (· exact hQ.keys); (· rfl); (· rfl); rw [qO_new (m := []) hg]))
                 | ((with_reducible refine DrawSt.walk [0, 1, 2, 3, 4, 5, 6, 7, 8, 9, 10] mixed ?_ ?_); · decide +kernel)
                 | ((with_reducible apply IdxSl.rdg (g := frV) (s := 5)); (· with_reducible assumption); (· exact fun _ => rfl); (· decide); (· rfl); (· first | with_reducible rfl | exact natL _); (· (first | omega | (simp only [List.length_map, List.length_append, List.length_cons, List.length_nil, List.length_take, List.length_drop, List.length_replicate, List.length_set] at *; omega))); · (first | omega | (simp only [List.length_map, List.length_append, List.length_cons, List.length_nil, List.length_take, List.length_drop, List.length_replicate, List.length_set] at *; omega)))
                 | (with_reducible refine NextSt.mk ?_)
                 | (with_reducible refine OnBB.tt ?_)
                 | ((with_reducible apply Cmp.yes); · first | omega | (with_reducible assumption) | (with_reducible rfl))
                 | ((with_reducible apply LoadSt.box); · (repeat (first | exact List.Mem.head _ | with_reducible apply List.mem_append_right | with_reducible apply List.mem_cons_of_mem)))
                 | ((with_reducible apply LoadSt.boxAgg); · (repeat (first | exact List.Mem.head _ | with_reducible apply List.mem_append_right | with_reducible apply List.mem_cons_of_mem)))
                 | ((with_reducible refine AllocSt.mk ?_); intro _b _hb _hbO)
                 | ((with_reducible apply StoreSt.box); (· (repeat (first | exact Upd.hd | apply Upd.tl | apply Upd.app))); (· rfl); (· rfl); (· rfl)))
        obtain ⟨nb, hnb⟩ : ∃ x, x = _b := ⟨_, rfl⟩
        subst hnb
        rw [show Obj.map #[] 0 = mapObj ptV sV ([] : Bm) from rfl]
        have hg2 : aget (qO (Q ++ [(kyF f, nb, [])])) (kyF f) = some nb := by rw [← qO_new hg, aget_put, if_pos rfl]
        have hk1 : akeys (qO (Q ++ [(kyF f, nb, [])])) := by rw [← qO_new hg]; exact hQ.keys.put _ _
        have hk2 : ∀ q, q = kyF f ∨ q ∈ (qO (Q ++ [(kyF f, nb, [])])).map Prod.fst → ∃ l, keyOf Try.prog 195 (kyV q) = some l := by
          rintro q (rfl | hq)
          · exact ky_of (kyF_ok hf)
          · rw [← qO_new hg] at hq
            exact hQ.okeys (kyF_ok hf) q (aput_mem hq)
        have hp2 : ∀ q, q = f.part ∨ q ∈ ([] : Bm).map Prod.fst → ∃ l, keyOf Try.prog 3 (ptV q) = some l := by
          rintro q (rfl | hq)
          · exact pt_of (part_ok hf)
          · cases hq
        repeat' (conv => whnf
                 first
                 | (((apply LookSt.someF (g := kyV) (v := bkM) (l := qO (Q ++ [(kyF f, nb, [])])) (k := kyF f) nb (.map none)); (· (repeat (first | exact List.Mem.head _ | with_reducible apply List.mem_append_right | with_reducible apply List.mem_cons_of_mem))); (· rfl); (· exact keyed195); (· exact hk2); (· exact kyV_inj); (· exact hk1); (· rfl); (· exact zero196); (· exact hg2)))
                 | (((apply LookSt.noneT (g := ptV) (v := sV) (l := []) (k := f.part) (sV [])); (· (repeat (first | exact List.Mem.head _ | with_reducible apply List.mem_append_right | with_reducible apply List.mem_cons_of_mem))); (· rfl); (· exact keyed3); (· exact hp2); (· exact ptV_inj); (· exact List.nodup_nil); (· rfl); (· exact zero9); (· rfl)))
                 | (((apply MapUp.ownIn (g := ptV) (v := sV) (l := []) (k := f.part) (x := f.body)); (· (repeat (first | with_reducible exact Loc.hd | with_reducible exact Loc.last | with_reducible exact Loc.one | with_reducible apply Loc.tl | with_reducible apply Loc.skip))); (· rfl); (· exact keyed3); (· exact hp2); (· exact ptV_inj); (· exact List.nodup_nil); (· rfl); (· rfl)))
                 | ((with_reducible refine DrawSt.walk [0, 1, 2, 3, 4, 5, 6, 7] mixed ?_ ?_); · decide +kernel)
                 | (with_reducible refine NextSt.mk ?_)
                 | (with_reducible refine OnBB.tt ?_)
                 | (with_reducible refine OnBB.ff ?_)
                 | ((with_reducible apply NW.addN); (· first | with_reducible rfl | exact natL _); (· first | with_reducible rfl | exact natL _); (· omega))
                 | ((with_reducible apply LoadSt.box); · (repeat (first | exact List.Mem.head _ | with_reducible apply List.mem_append_right | with_reducible apply List.mem_cons_of_mem)))
                 | ((with_reducible apply LoadSt.boxAgg); · (repeat (first | exact List.Mem.head _ | with_reducible apply List.mem_append_right | with_reducible apply List.mem_cons_of_mem))))
        refine RoundFix.mk (i + 1, Q ++ [(kyF f, nb, bIns [] f)]) ?_ ?_ _ rfl ?_ ?_
        · dsimp only; omega
        · repeat' (first | exact True.intro | refine And.intro ?_ ?_ | rfl | exact congrArg (Value.int _) (by omega) | exact congrArg (fun n => Value.slice _ n _) (by (try dsimp only); omega))
        · dsimp only
          rw [qI_app, qO_old (A := Q) (B := []) (m := []) (m' := bIns [] f)]
          refine (Wk.drop (O1 := (nb, mapObj ptV sV (bIns [] f)) :: (mb, mapObj kyV bkM (qO (Q ++ [(kyF f, nb, [])]))) :: (qI Q ++ O)) (by (try dsimp only); (try simp only [List.cons_append, List.nil_append]); (repeat (first | with_reducible exact List.Sublist.refl _ | with_reducible exact List.nil_sublist _ | with_reducible apply List.Sublist.cons_cons | with_reducible apply sub_app | apply List.Sublist.cons_cons | apply sub_app | with_reducible apply List.Sublist.cons | with_reducible apply sub_skip)))).trans (Wk.perm ?_)
          exact perm1 _ _ _ _
        · exact ⟨hil, hQ.new hil he hf hg⟩
      | some b =>
        obtain ⟨A, m, B, rfl⟩ := q_split hg
        rw [qI_app, qI_cons, List.append_assoc, List.cons_append]
        have hk1 := hQ.keys
        have hk2 := hQ.okeys (kyF_ok hf)
        have hp1 := hQ.pakeys
        have hp2 := hQ.pkeys (part_ok hf)
        cases hgp : aget m f.part with
        | none =>
          have hbi : aput m f.part f.body = bIns m f := by unfold bIns; rw [hgp]
          repeat' (conv => whnf
                   first
                   | (((with_reducible apply LoadSt.rdg (g := frV) (s := 5)); (· rfl); (· (repeat (first | with_reducible assumption | (with_reducible apply Buf.rd; with_reducible assumption) | (with_reducible apply Rd.appL; with_reducible assumption) | (with_reducible apply Rd.appL; with_reducible apply Buf.rd; with_reducible assumption) | with_reducible apply Rd.cons | with_reducible apply Rd.appR))); (· exact fun _ => rfl); (· decide); (· (first | omega | (simp only [List.length_map, List.length_append, List.length_cons, List.length_nil, List.length_take, List.length_drop, List.length_replicate, List.length_set] at *; omega))); rw [he]))
                   | (((apply LookSt.someF (g := kyV) (v := bkM) (l := qO (A ++ (kyF f, b, m) :: B)) (k := kyF f) b (.map none)); (· (repeat (first | exact List.Mem.head _ | with_reducible apply List.mem_append_right | with_reducible apply List.mem_cons_of_mem))); (· rfl); (· exact keyed195); (· exact hk2); (· exact kyV_inj); (· exact hk1); (· rfl); (· exact zero196); (· exact hg)))
                   | ((change OnBB (Option.isNone (some _)) _; refine OnBB.ff ?_))
                   | (((apply LookSt.noneT (g := ptV) (v := sV) (l := m) (k := f.part) (sV [])); (· (repeat (first | exact List.Mem.head _ | with_reducible apply List.mem_append_right | with_reducible apply List.mem_cons_of_mem))); (· rfl); (· exact keyed3); (· exact hp2); (· exact ptV_inj); (· exact hp1); (· rfl); (· exact zero9); (· exact hgp)))
                   | (((apply MapUp.ownIn (g := ptV) (v := sV) (l := m) (k := f.part) (x := f.body)); (· (repeat (first | with_reducible exact Loc.hd | with_reducible exact Loc.last | with_reducible exact Loc.one | with_reducible apply Loc.tl | with_reducible apply Loc.skip))); (· rfl); (· exact keyed3); (· exact hp2); (· exact ptV_inj); (· exact hp1); (· rfl); (· rfl); rw [hbi]))
                   | ((with_reducible refine DrawSt.walk [0, 1, 2, 3, 4, 5, 6, 7, 8, 9, 10] mixed ?_ ?_); · decide +kernel)
                   | ((with_reducible refine DrawSt.walk [0, 1, 2, 3, 4, 5, 6, 7] mixed ?_ ?_); · decide +kernel)
                   | ((with_reducible apply IdxSl.rdg (g := frV) (s := 5)); (· with_reducible assumption); (· exact fun _ => rfl); (· decide); (· rfl); (· first | with_reducible rfl | exact natL _); (· (first | omega | (simp only [List.length_map, List.length_append, List.length_cons, List.length_nil, List.length_take, List.length_drop, List.length_replicate, List.length_set] at *; omega))); · (first | omega | (simp only [List.length_map, List.length_append, List.length_cons, List.length_nil, List.length_take, List.length_drop, List.length_replicate, List.length_set] at *; omega)))
                   | (with_reducible refine NextSt.mk ?_)
                   | (with_reducible refine OnBB.tt ?_)
                   | (with_reducible refine OnBB.ff ?_)
                   | ((with_reducible apply NW.addN); (· first | with_reducible rfl | exact natL _); (· first | with_reducible rfl | exact natL _); (· omega))
                   | ((with_reducible apply Cmp.yes); · first | omega | (with_reducible assumption) | (with_reducible rfl))
                   | ((with_reducible apply LoadSt.box); · (repeat (first | exact List.Mem.head _ | with_reducible apply List.mem_append_right | with_reducible apply List.mem_cons_of_mem)))
                   | ((with_reducible apply LoadSt.boxAgg); · (repeat (first | exact List.Mem.head _ | with_reducible apply List.mem_append_right | with_reducible apply List.mem_cons_of_mem)))
                   | ((with_reducible refine AllocSt.mk ?_); intro _b _hb _hbO)
                   | ((with_reducible apply StoreSt.box); (· (repeat (first | exact Upd.hd | apply Upd.tl | apply Upd.app))); (· rfl); (· rfl); (· rfl)))
          refine RoundFix.mk (i + 1, A ++ (kyF f, b, bIns m f) :: B) ?_ ?_ _ rfl ?_ ?_
          · dsimp only; omega
          · repeat' (first | exact True.intro | refine And.intro ?_ ?_ | rfl | exact congrArg (Value.int _) (by omega) | exact congrArg (fun n => Value.slice _ n _) (by (try dsimp only); omega))
          · dsimp only
            rw [qO_old (m := m) (m' := bIns m f), qI_app, qI_cons, List.append_assoc, List.cons_append]
            exact Wk.drop (by (try dsimp only); (try simp only [List.cons_append, List.nil_append]); (repeat (first | with_reducible exact List.Sublist.refl _ | with_reducible exact List.nil_sublist _ | with_reducible apply List.Sublist.cons_cons | with_reducible apply sub_app | apply List.Sublist.cons_cons | apply sub_app | with_reducible apply List.Sublist.cons | with_reducible apply sub_skip)))
          · exact ⟨hil, hQ.old hil he hf⟩
        | some s0 =>
          by_cases hlt : Op.bytesLess f.body s0 = true
          · have hbi : aput m f.part f.body = bIns m f := by unfold bIns; rw [hgp]; simp only; rw [if_pos hlt]
            repeat' (conv => whnf
                     first
                     | (((with_reducible apply LoadSt.rdg (g := frV) (s := 5)); (· rfl); (· (repeat (first | with_reducible assumption | (with_reducible apply Buf.rd; with_reducible assumption) | (with_reducible apply Rd.appL; with_reducible assumption) | (with_reducible apply Rd.appL; with_reducible apply Buf.rd; with_reducible assumption) | with_reducible apply Rd.cons | with_reducible apply Rd.appR))); (· exact fun _ => rfl); (· decide); (· (first | omega | (simp only [List.length_map, List.length_append, List.length_cons, List.length_nil, List.length_take, List.length_drop, List.length_replicate, List.length_set] at *; omega))); rw [he]))
                     | (((apply LookSt.someF (g := kyV) (v := bkM) (l := qO (A ++ (kyF f, b, m) :: B)) (k := kyF f) b (.map none)); (· (repeat (first | exact List.Mem.head _ | with_reducible apply List.mem_append_right | with_reducible apply List.mem_cons_of_mem))); (· rfl); (· exact keyed195); (· exact hk2); (· exact kyV_inj); (· exact hk1); (· rfl); (· exact zero196); (· exact hg)))
                     | ((change OnBB (Option.isNone (some _)) _; refine OnBB.ff ?_))
                     | (((apply LookSt.someT (g := ptV) (v := sV) (l := m) (k := f.part) s0 (sV [])); (· (repeat (first | exact List.Mem.head _ | with_reducible apply List.mem_append_right | with_reducible apply List.mem_cons_of_mem))); (· rfl); (· exact keyed3); (· exact hp2); (· exact ptV_inj); (· exact hp1); (· rfl); (· exact zero9); (· exact hgp)))
                     | (((apply MapUp.ownIn (g := ptV) (v := sV) (l := m) (k := f.part) (x := f.body)); (· (repeat (first | with_reducible exact Loc.hd | with_reducible exact Loc.last | with_reducible exact Loc.one | with_reducible apply Loc.tl | with_reducible apply Loc.skip))); (· rfl); (· exact keyed3); (· exact hp2); (· exact ptV_inj); (· exact hp1); (· rfl); (· rfl); rw [hbi]))
                     | ((with_reducible refine DrawSt.walk [0, 1, 2, 3, 4, 5, 6, 7, 8, 9, 10] mixed ?_ ?_); · decide +kernel)
                     | ((with_reducible refine DrawSt.walk [0, 1, 2, 3, 4, 5, 6, 7] mixed ?_ ?_); · decide +kernel)
                     | ((with_reducible apply IdxSl.rdg (g := frV) (s := 5)); (· with_reducible assumption); (· exact fun _ => rfl); (· decide); (· rfl); (· first | with_reducible rfl | exact natL _); (· (first | omega | (simp only [List.length_map, List.length_append, List.length_cons, List.length_nil, List.length_take, List.length_drop, List.length_replicate, List.length_set] at *; omega))); · (first | omega | (simp only [List.length_map, List.length_append, List.length_cons, List.length_nil, List.length_take, List.length_drop, List.length_replicate, List.length_set] at *; omega)))
                     | (with_reducible refine NextSt.mk ?_)
                     | (with_reducible refine OnBB.tt ?_)
                     | (with_reducible refine OnBB.ff ?_)
                     | ((with_reducible apply NW.addN); (· first | with_reducible rfl | exact natL _); (· first | with_reducible rfl | exact natL _); (· omega))
                     | ((with_reducible apply Cmp.yes); · first | omega | (with_reducible assumption) | (with_reducible rfl))
                     | ((with_reducible apply LoadSt.box); · (repeat (first | exact List.Mem.head _ | with_reducible apply List.mem_append_right | with_reducible apply List.mem_cons_of_mem)))
                     | ((with_reducible apply LoadSt.boxAgg); · (repeat (first | exact List.Mem.head _ | with_reducible apply List.mem_append_right | with_reducible apply List.mem_cons_of_mem)))
                     | ((with_reducible refine AllocSt.mk ?_); intro _b _hb _hbO)
                     | ((with_reducible apply StoreSt.box); (· (repeat (first | exact Upd.hd | apply Upd.tl | apply Upd.app))); (· rfl); (· rfl); (· rfl)))
            refine RoundFix.mk (i + 1, A ++ (kyF f, b, bIns m f) :: B) ?_ ?_ _ rfl ?_ ?_
            · dsimp only; omega
            · repeat' (first | exact True.intro | refine And.intro ?_ ?_ | rfl | exact congrArg (Value.int _) (by omega) | exact congrArg (fun n => Value.slice _ n _) (by (try dsimp only); omega))
            · dsimp only
              rw [qO_old (m := m) (m' := bIns m f), qI_app, qI_cons, List.append_assoc, List.cons_append]
              exact Wk.drop (by (try dsimp only); (try simp only [List.cons_append, List.nil_append]); (repeat (first | with_reducible exact List.Sublist.refl _ | with_reducible exact List.nil_sublist _ | with_reducible apply List.Sublist.cons_cons | with_reducible apply sub_app | apply List.Sublist.cons_cons | apply sub_app | with_reducible apply List.Sublist.cons | with_reducible apply sub_skip)))
            · exact ⟨hil, hQ.old hil he hf⟩
          · have hbi : bIns m f = m := by unfold bIns; rw [hgp]; simp only; rw [if_neg hlt]
            have hold := hQ.old hil he hf
            rw [hbi] at hold
            repeat' (conv => whnf
                     first
                     | (((with_reducible apply LoadSt.rdg (g := frV) (s := 5)); (· rfl); (· (repeat (first | with_reducible assumption | (with_reducible apply Buf.rd; with_reducible assumption) | (with_reducible apply Rd.appL; with_reducible assumption) | (with_reducible apply Rd.appL; with_reducible apply Buf.rd; with_reducible assumption) | with_reducible apply Rd.cons | with_reducible apply Rd.appR))); (· exact fun _ => rfl); (· decide); (· (first | omega | (simp only [List.length_map, List.length_append, List.length_cons, List.length_nil, List.length_take, List.length_drop, List.length_replicate, List.length_set] at *; omega))); rw [he]))
                     | (((apply LookSt.someF (g := kyV) (v := bkM) (l := qO (A ++ (kyF f, b, m) :: B)) (k := kyF f) b (.map none)); (· (repeat (first | exact List.Mem.head _ | with_reducible apply List.mem_append_right | with_reducible apply List.mem_cons_of_mem))); (· rfl); (· exact keyed195); (· exact hk2); (· exact kyV_inj); (· exact hk1); (· rfl); (· exact zero196); (· exact hg)))
                     | ((change OnBB (Option.isNone (some _)) _; refine OnBB.ff ?_))
                     | (((apply LookSt.someT (g := ptV) (v := sV) (l := m) (k := f.part) s0 (sV [])); (· (repeat (first | exact List.Mem.head _ | with_reducible apply List.mem_append_right | with_reducible apply List.mem_cons_of_mem))); (· rfl); (· exact keyed3); (· exact hp2); (· exact ptV_inj); (· exact hp1); (· rfl); (· exact zero9); (· exact hgp)))
                     | ((with_reducible refine DrawSt.walk [0, 1, 2, 3, 4, 5, 6, 7, 8, 9, 10] mixed ?_ ?_); · decide +kernel)
                     | ((with_reducible apply IdxSl.rdg (g := frV) (s := 5)); (· with_reducible assumption); (· exact fun _ => rfl); (· decide); (· rfl); (· first | with_reducible rfl | exact natL _); (· (first | omega | (simp only [List.length_map, List.length_append, List.length_cons, List.length_nil, List.length_take, List.length_drop, List.length_replicate, List.length_set] at *; omega))); · (first | omega | (simp only [List.length_map, List.length_append, List.length_cons, List.length_nil, List.length_take, List.length_drop, List.length_replicate, List.length_set] at *; omega)))
                     | (with_reducible refine NextSt.mk ?_)
                     | (with_reducible refine OnBB.tt ?_)
                     | (with_reducible refine OnBB.ff ?_)
                     | ((with_reducible apply NW.addN); (· first | with_reducible rfl | exact natL _); (· first | with_reducible rfl | exact natL _); (· omega))
                     | ((with_reducible apply Cmp.yes); · first | omega | (with_reducible assumption) | (with_reducible rfl))
                     | ((with_reducible apply Cmp.no); · first | omega | (with_reducible assumption))
                     | ((with_reducible apply LoadSt.box); · (repeat (first | exact List.Mem.head _ | with_reducible apply List.mem_append_right | with_reducible apply List.mem_cons_of_mem)))
                     | ((with_reducible apply LoadSt.boxAgg); · (repeat (first | exact List.Mem.head _ | with_reducible apply List.mem_append_right | with_reducible apply List.mem_cons_of_mem)))
                     | ((with_reducible refine AllocSt.mk ?_); intro _b _hb _hbO)
                     | ((with_reducible apply StoreSt.box); (· (repeat (first | exact Upd.hd | apply Upd.tl | apply Upd.app))); (· rfl); (· rfl); (· rfl)))
            refine RoundFix.mk (i + 1, A ++ (kyF f, b, m) :: B) ?_ ?_ _ rfl ?_ ?_
            · dsimp only; omega
            · repeat' (first | exact True.intro | refine And.intro ?_ ?_ | rfl | exact congrArg (Value.int _) (by omega) | exact congrArg (fun n => Value.slice _ n _) (by (try dsimp only); omega))
            · dsimp only
              rw [qI_app, qI_cons, List.append_assoc, List.cons_append]
              exact Wk.drop (by (try dsimp only); (try simp only [List.cons_append, List.nil_append]); (repeat (first | with_reducible exact List.Sublist.refl _ | with_reducible exact List.nil_sublist _ | with_reducible apply List.Sublist.cons_cons | with_reducible apply sub_app | apply List.Sublist.cons_cons | apply sub_app | with_reducible apply List.Sublist.cons | with_reducible apply sub_skip)))
            · exact ⟨hil, hold⟩
    · have : i = l.length := by omega
      subst this
      rw [List.take_length] at hQ
      have hQl : Q.length ≤ 4096 := by
        have h1 : (qG Q).length = Q.length := by simp [qG]
        rw [← h1, hQ.g]
        exact Nat.le_trans (gMap_len l) hn
      have hOl : (qO Q).length = Q.length := by simp [qO]
      repeat' (conv => whnf
               first
               | (((apply RunSt.range (g := kyV) (v := bkM) (l := qO Q)); (· (repeat (first | exact List.Mem.head _ | with_reducible apply List.mem_append_right | with_reducible apply List.mem_cons_of_mem))); (· rfl); intro r _hr1 _hr2))
               | (with_reducible refine NextSt.mk ?_)
               | (with_reducible refine OnBB.ff ?_)
               | ((with_reducible apply Cmp.no); · first | omega | (with_reducible assumption)))
      refine LoopSt.fix [9, 10, 11, 12, 13, 62, 63, 64, 65, 66, 67, 68, 69, 70, 71, 72, 73, 74, 75, 76, 77, 78, 79, 80, 81, 82, 83, 84, 85, 86, 87, 88, 89, 90, 91, 92, 93] (fun ((seen, xs, B) : List Nat × List En × Buf) => [(9, .slice B.a xs.length B.cap)]) (fun (seen, xs, B) => (r, iterO mb (qO Q).length seen) :: (B.hp 70 (xs.flatMap enV) ++ ((mb, mapObj kyV bkM (qO Q)) :: (qI Q ++ O)))) (fun (seen, xs, B) => seen.Nodup ∧ (∀ j ∈ seen, j < Q.length) ∧ xs = seen.filterMap (entQ Q) ∧ B.ok 3 (xs.flatMap enV) xs.length) (fun (seen, xs, B) => Q.length - seen.length) (([], [], Buf.nil)) _ (Wk.refl _ _) (rfl) ?_ ?_ ?_
      · repeat' (first | exact True.intro | refine And.intro ?_ ?_ | rfl | exact congrArg (Value.int _) (by omega) | exact congrArg (fun n => Value.slice _ n _) (by (try dsimp only); omega))
      · exact ⟨List.nodup_nil, fun j hj => (by cases hj), rfl, Buf.nil_ok 3⟩
      · rintro ⟨seen, xs, B⟩ d ⟨hd, hlt, hxs, hB⟩
        dsimp only at hd hlt hxs hB ⊢
        have hsl := seen_len hd hlt
        have hxl : xs.length ≤ seen.length := by rw [hxs]; exact List.length_filterMap_le _ _
        conv => whnf
        refine RunSt.next (O1 := []) (g := kyV) (v := bkM) (l := qO Q) (by (repeat (first | exact List.Mem.head _ | with_reducible apply List.mem_append_right | with_reducible apply List.mem_cons_of_mem))) ?_ ?_
        · intro hall
          have hp := seen_perm hd hlt fun j hj => hall j (by rw [hOl]; exact hj)
          have hperm : xs.Perm ((gMap l).filterMap entG) := by
            rw [hxs, ← hQ.g, ← entQ_all]
            exact hp.filterMap _
          have e161 := fun h => sort161 xs B hB (by omega) h
          have e163 : ∀ ys : List En, ys.length = xs.length → ∀ h, GSpec Try.prog 163 [.slice B.a xs.length B.cap, .func (.func 164) #[] #[]] h (B.hp 70 (ys.flatMap enV)) (fun v _ O' => CmR ys v O') := fun ys h1 h => by
            have h2 := Buf.ok_len hB (l' := ys.flatMap enV) (by rw [flat_length (g := enV) (s := 3) (fun _ => rfl), flat_length (g := enV) (s := 3) (fun _ => rfl), h1])
            rw [← h1] at h2 ⊢
            exact f163 ys B h2 (by omega) h
          repeat' (conv => whnf
                   first
                   | (((with_reducible apply CallSt.loc (f := 161) (H := B.hp 70 (xs.flatMap enV)) (R := SoR B xs)); (· (repeat (first | with_reducible exact Loc.hd | with_reducible exact Loc.last | with_reducible exact Loc.one | with_reducible apply Loc.tl | with_reducible apply Loc.skip))); (· exact e161 _); rintro _ _ ⟨ys, hy1, hy2, rfl⟩))
                   | (((with_reducible apply CallSt.loc (f := 163) (H := B.hp 70 (ys.flatMap enV)) (R := CmR ys)); (· (repeat (first | with_reducible exact Loc.hd | with_reducible exact Loc.last | with_reducible exact Loc.one | with_reducible apply Loc.tl | with_reducible apply Loc.skip))); (· exact e163 ys hy1.length_eq _); rintro _ _ ⟨B2, hB2, rfl, rfl⟩))
                   | (with_reducible refine NextSt.mk ?_)
                   | (with_reducible refine OnBB.ff ?_))
          have hgl := gather_eq hl (hy1.trans hperm) hy2
          rw [hgl] at hB2 ⊢
          conv => whnf
          refine FinSt.new (H := B2.hp 70 ((gatR l).flatMap enV)) (by (try dsimp only); (try simp only [List.cons_append, List.nil_append]); (repeat (first | with_reducible exact List.Sublist.refl _ | with_reducible exact List.nil_sublist _ | with_reducible apply List.Sublist.cons_cons | with_reducible apply sub_app | apply List.Sublist.cons_cons | apply sub_app | with_reducible apply List.Sublist.cons | with_reducible apply sub_skip))) ?_
          exact ⟨_, _, rfl, Buf.rd hB2, Buf.le hB2⟩
        · intro j k x hj hns
          obtain ⟨m, hm⟩ := qO_at hj
          have hjl : j < Q.length := (List.getElem?_eq_some_iff.1 hm).1
          have hmq : (x, mapObj ptV sV m) ∈ qI Q := List.mem_map.2 ⟨(k, x, m), List.mem_of_getElem? hm, rfl⟩
          have hnd : (seen ++ [j]).Nodup := by
            rw [List.nodup_append]
            exact ⟨hd, by simp, fun a ha b hb e => hns (by rw [List.mem_singleton.1 hb] at e; rw [← e]; exact ha)⟩
          have hlt2 : ∀ i ∈ seen ++ [j], i < Q.length := fun i hi => by
            rcases List.mem_append.1 hi with h1 | h1
            · exact hlt i h1
            · rw [List.mem_singleton.1 h1]; exact hjl
          have hsl2 := seen_len hnd hlt2
          have hfm : (seen ++ [j]).filterMap (entQ Q) = xs ++ (entG (k, m)).toList := by
            rw [List.filterMap_append, ← hxs]
            congr 1
            have e : entQ Q j = entG (k, m) := by unfold entQ; rw [hm]; rfl
            rw [List.filterMap_cons, e]
            cases entG (k, m) <;> rfl
          obtain ⟨AQ, BQ, hQs⟩ := List.append_of_mem (List.mem_of_getElem? hm)
          have hQ2 := hQ
          rw [hQs] at hQ2
          obtain ⟨-, hin, -, -, -, hk1, hk32⟩ := hQ2.ok.inner k m hQ2.mem
          have hma := hQ2.pakeys
          have hmk := fun (p : Nat) (hp : p < 32) => hQ2.pkeys (p := (p : Int)) ⟨by omega, by omega⟩
          have hgl : ∀ p : Nat, ((aget m (p : Int)).getD []).length ≤ 32 := fun p => by
            have h1 := look_gMap l k (p : Int)
            unfold lookG at h1
            rw [hQ2.mem, Option.getD_some] at h1
            rw [h1]
            exact leastB_len hl k p
          clear hQs hQ2
          rw [List.length_append, List.length_singleton] at hsl2
          by_cases hful : (m.length : Int) < k.2.2
          · have he0 : entG (k, m) = none := if_pos hful
            rw [he0] at hfm
            repeat' (conv => whnf
                     first
                     | (((apply RunSt.entry (g := kyV) (v := bkM) (l := qO Q) (j := j) (k := k) (x := x) (seen := seen)); (· (repeat (first | exact List.Mem.head _ | with_reducible apply List.mem_append_right | with_reducible apply List.mem_cons_of_mem))); (· (repeat (first | exact List.Mem.head _ | with_reducible apply List.mem_append_right | with_reducible apply List.mem_cons_of_mem))); (· exact hj)))
                     | (((apply MapLen.own (g := ptV) (v := sV) (l := m)); (· repeat (first | exact List.mem_append_left _ hmq | with_reducible apply List.mem_append_right | with_reducible apply List.mem_cons_of_mem))))
                     | (with_reducible refine NextSt.mk ?_)
                     | (with_reducible refine OnBB.tt ?_)
                     | ((with_reducible apply Cmp.yes); · first | omega | (with_reducible assumption) | (with_reducible rfl))
                     | ((with_reducible apply LoadSt.box); · (repeat (first | exact List.Mem.head _ | with_reducible apply List.mem_append_right | with_reducible apply List.mem_cons_of_mem)))
                     | ((with_reducible refine AllocSt.mk ?_); intro _b _hb _hbO)
                     | ((with_reducible apply StoreSt.box); (· (repeat (first | exact Upd.hd | apply Upd.tl | apply Upd.app))); (· rfl); (· rfl); (· rfl)))
            simp only [Option.toList_none, List.append_nil] at hfm
            refine RoundFix.mk ((seen ++ [j], xs, B)) ?_ ?_ _ rfl (Wk.drop (by (try dsimp only); (try simp only [List.cons_append, List.nil_append]); (repeat (first | with_reducible exact List.Sublist.refl _ | with_reducible exact List.nil_sublist _ | with_reducible apply List.Sublist.cons_cons | with_reducible apply sub_app | apply List.Sublist.cons_cons | apply sub_app | with_reducible apply List.Sublist.cons | with_reducible apply sub_skip)))) ?_
            · dsimp only; rw [List.length_append, List.length_singleton]; omega
            · repeat' (first | exact True.intro | refine And.intro ?_ ?_ | rfl | exact congrArg (Value.int _) (by omega) | exact congrArg (fun n => Value.slice _ n _) (by (try dsimp only); omega))
            · exact ⟨hnd, hlt2, hfm.symm, hB⟩
          · obtain ⟨P, hP⟩ : ∃ P : Nat, k.2.2 = P := ⟨k.2.2.toNat, by omega⟩
            have he0 : entG (k, m) = some ⟨k.1, k.2.1, joinP (aget m) P⟩ := by
              unfold entG
              rw [if_neg hful]
              simp only [hP, Int.toNat_natCast]
            rw [he0] at hfm
            simp only [Option.toList_some] at hfm
            have hjl2 := fun n => joinP_len hgl n
            repeat' (conv => whnf
                     first
                     | (((apply RunSt.entry (g := kyV) (v := bkM) (l := qO Q) (j := j) (k := k) (x := x) (seen := seen)); (· (repeat (first | exact List.Mem.head _ | with_reducible apply List.mem_append_right | with_reducible apply List.mem_cons_of_mem))); (· (repeat (first | exact List.Mem.head _ | with_reducible apply List.mem_append_right | with_reducible apply List.mem_cons_of_mem))); (· exact hj)))
                     | (((apply MapLen.own (g := ptV) (v := sV) (l := m)); (· repeat (first | exact List.mem_append_left _ hmq | with_reducible apply List.mem_append_right | with_reducible apply List.mem_cons_of_mem))))
                     | (with_reducible refine NextSt.mk ?_)
                     | (with_reducible refine OnBB.tt ?_)
                     | (with_reducible refine OnBB.ff ?_)
                     | ((with_reducible apply Cmp.no); · first | omega | (with_reducible assumption))
                     | ((with_reducible apply LoadSt.box); · (repeat (first | exact List.Mem.head _ | with_reducible apply List.mem_append_right | with_reducible apply List.mem_cons_of_mem)))
                     | ((with_reducible refine AllocSt.mk ?_); intro _b _hb _hbO)
                     | ((with_reducible apply StoreSt.box); (· (repeat (first | exact Upd.hd | apply Upd.tl | apply Upd.app))); (· rfl); (· rfl); (· rfl)))
            obtain ⟨eb, heb⟩ : ∃ x, x = _b := ⟨_, rfl⟩
            subst heb
            refine LoopSt.fix [13, 79, 80, 81, 82, 83, 84, 85, 86, 87, 88, 89] (fun (p : Nat) => [(79, iN p)]) (fun p => (eb, .cells ⟨[.int .i64 k.1, .int .i64 k.2.1, sV (joinP (aget m) p)]⟩ 70 (0, 0)) :: _) (fun p => p ≤ P) (fun p => P - p) (0) _ (Wk.refl _ _) (rfl) ?_ ?_ ?_
            · repeat' (first | exact True.intro | refine And.intro ?_ ?_ | rfl | exact congrArg (Value.int _) (by omega) | exact congrArg (fun n => Value.slice _ n _) (by (try dsimp only); omega))
            · exact Nat.zero_le _
            · rintro p d hp
              have hl1 := hjl2 p
              have hl2 := hgl p
              by_cases hpP : p < P
              · repeat' (conv => whnf
                         first
                         | (((apply LookSt.ownD (g := ptV) (v := sV) (l := m) (k := (p : Int)) (d := [])); (· repeat (first | exact List.mem_append_left _ hmq | with_reducible apply List.mem_append_right | with_reducible apply List.mem_cons_of_mem)); (· rfl); (· exact keyed3); (· exact hmk p (by omega)); (· exact ptV_inj); (· exact hma); (· rfl); (· exact zero9)))
                         | (with_reducible refine NextSt.mk ?_)
                         | (with_reducible refine OnBB.tt ?_)
                         | ((with_reducible apply NW.addN); (· first | with_reducible rfl | exact natL _); (· first | with_reducible rfl | exact natL _); (· omega))
                         | ((with_reducible apply Cmp.yes); · first | omega | (with_reducible assumption) | (with_reducible rfl))
                         | ((with_reducible apply LoadSt.box); · (repeat (first | exact List.Mem.head _ | with_reducible apply List.mem_append_right | with_reducible apply List.mem_cons_of_mem)))
                         | ((with_reducible apply StoreSt.box); (· (repeat (first | exact Upd.hd | apply Upd.tl | apply Upd.app))); (· rfl); (· rfl); (· rfl))
                         | ((with_reducible apply StrAdd.mk); · (first | omega | (simp only [List.length_map, List.length_append, List.length_cons, List.length_nil, List.length_take, List.length_drop, List.length_replicate, List.length_set] at *; omega))))
                refine RoundFix.mk (p + 1) ?_ ?_ _ rfl (by rw [joinP_succ]; exact Wk.drop (by (try dsimp only); (try simp only [List.cons_append, List.nil_append]); (repeat (first | with_reducible exact List.Sublist.refl _ | with_reducible exact List.nil_sublist _ | with_reducible apply List.Sublist.cons_cons | with_reducible apply sub_app | apply List.Sublist.cons_cons | apply sub_app | with_reducible apply List.Sublist.cons | with_reducible apply sub_skip)))) ?_
                · omega
                · repeat' (first | exact True.intro | refine And.intro ?_ ?_ | rfl | exact congrArg (Value.int _) (by omega) | exact congrArg (fun n => Value.slice _ n _) (by (try dsimp only); omega))
                · exact hpP
              · have hpe : p = P := by omega
                rw [hpe]
                have hxl2 : xs.length ≤ 4096 := by omega
                repeat' (conv => whnf
                         first
                         | (((apply AppSt.litm (g := enV) (x := ⟨k.1, k.2.1, joinP (aget m) P⟩) (xs := xs) (s := 3) (z := .agg ⟨[.int .i64 0, .int .i64 0, sV []]⟩)); (· (repeat (first | with_reducible exact Loc.hd | with_reducible exact Loc.last | with_reducible exact Loc.one | with_reducible apply Loc.tl | with_reducible apply Loc.skip))); (· exact hB); (· (repeat (first | exact List.Mem.head _ | with_reducible apply List.mem_append_right | with_reducible apply List.mem_cons_of_mem))); (· rfl); (· rfl); (· rfl); (· rfl); (· rfl); (· rfl); (· rfl); (· (show _ * 32 ≤ _; omega)); (· omega); intro B1 hB1))
                         | (with_reducible refine NextSt.mk ?_)
                         | (with_reducible refine OnBB.ff ?_)
                         | ((with_reducible apply Cmp.no); · first | omega | (with_reducible assumption))
                         | ((with_reducible apply LoadSt.boxAgg); · (repeat (first | exact List.Mem.head _ | with_reducible apply List.mem_append_right | with_reducible apply List.mem_cons_of_mem)))
                         | ((with_reducible refine AllocSt.mk ?_); intro _b _hb _hbO))
                refine RoundFix.mk (seen ++ [j], xs ++ [⟨k.1, k.2.1, joinP (aget m) P⟩], B1) ?_ ?_ _ rfl (by dsimp only; exact Wk.drop (by (try dsimp only); (try simp only [List.cons_append, List.nil_append]); (repeat (first | with_reducible exact List.Sublist.refl _ | with_reducible exact List.nil_sublist _ | with_reducible apply List.Sublist.cons_cons | with_reducible apply sub_app | apply List.Sublist.cons_cons | apply sub_app | with_reducible apply List.Sublist.cons | with_reducible apply sub_skip)))) ?_
                · dsimp only; rw [List.length_append, List.length_singleton]; omega
                · dsimp only
                  simp only [List.length_append, List.length_cons, List.length_nil]
                  repeat' (first | exact True.intro | refine And.intro ?_ ?_ | rfl | exact congrArg (Value.int _) (by omega) | exact congrArg (fun n => Value.slice _ n _) (by (try dsimp only); omega))
                · refine ⟨hnd, hlt2, hfm.symm, ?_⟩
                  dsimp only
                  simp only [List.length_append, List.length_cons, List.length_nil]
                  exact hB1
end Go.Proofs.Ytlbmlimaobkhpaa
