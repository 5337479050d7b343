/- The walk's logic: two parts of what is owned, sorting, the view alone, an operation beside a chain of calls. -/
import Derived.Test.YtaahjlhfmkjefaaGreatDoorGc
import Derived.Shelf.SlSortCmp.WholeK
set_option linter.unusedVariables false
set_option linter.unusedSimpArgs false
set_option linter.unusedSectionVars false
/- Calls on two parts of what is owned: one that is turned, one that is only read. -/
namespace Go
namespace Gv
variable {P : Program}
theorem Loc.perm {O H : Hp} {f : Hp → Hp} (l : Loc O H f) : O.Perm (H ++ f []) := by
  obtain ⟨A, B, rfl, hf⟩ := l.parts
  rw [hf, List.nil_append, ← List.append_assoc, ← List.append_assoc]
  exact List.perm_append_comm.append_right _
theorem Loc.perm' {O H : Hp} {f : Hp → Hp} (l : Loc O H f) (H' : Hp) : (f H').Perm (H' ++ f []) := by
  obtain ⟨A, B, rfl, hf⟩ := l.parts
  rw [hf, hf, List.nil_append, ← List.append_assoc, ← List.append_assoc]
  exact List.perm_append_comm.append_right _
theorem Loc.two {O H G : Hp} {f g : Hp → Hp} (l : Loc O H f) (m : Loc (f []) G g) (H' : Hp) : (f H').Perm ((G ++ H') ++ g []) := by
  refine (l.perm' H').trans ?_
  refine (m.perm.append_left H').trans ?_
  rw [← List.append_assoc]
  exact List.perm_append_comm.append_right _
end Gv
end Go
/- Rules: what is read of blocks that are handed on; loops whose view grows. -/
namespace Go
namespace Gv
variable {P : Program}

/-- Whole numbers as words. -/
def zI (n : Int) : Value := .int .i64 n
/-- What a part that is owned tells by itself. -/
abbrev RdH (H : Hp) (a : Option Addr) (l : List Value) : Prop := Rd (fun _ => none) H a l
theorem Rd.ofH {h : View} {H : Hp} {a : Option Addr} {l : List Value} (r : RdH H a l) : Rd h H a l := r.more (fun _ _ e => by cases e) fun _ _ e => e
theorem Rd.ofH1 {h : View} {H O : Hp} {a : Option Addr} {l : List Value} (r : RdH H a l) : Rd h (H ++ O) a l := Rd.appL r.ofH
theorem RdH.app {H G : Hp} {a : Option Addr} {l : List Value} (r : RdH H a l) : RdH (H ++ G) a l := Rd.appL r
theorem RdH.skip {H G : Hp} {a : Option Addr} {l : List Value} (r : RdH H a l) : RdH (G ++ H) a l := Rd.appR r
/-- A list that a call hands on, to be read alone. -/
def LsR {α : Type} (g : α → List Value) (l : List α) (v : Value) (H : Hp) : Prop := ∃ a c, v = .slice a l.length c ∧ RdH H a (l.flatMap g) ∧ l.length ≤ c
theorem flat_one {α : Type} {g : α → Value} (l : List α) : l.flatMap (fun x => [g x]) = l.map g := by
  induction l with
  | nil => rfl
  | cons a l ih => rw [List.flatMap_cons, ih]; rfl
/-- A list of lists, as it is read. -/
def RdLL (h : View) (O : Hp) (a : Option Addr) (ls : List (List Int)) : Prop :=
  ∃ vs : List Value, vs.length = ls.length ∧ Rd h O a vs ∧ ∀ i < ls.length, ∃ b c, vs.getD i undef = .slice b (ls.getD i []).length c ∧ Rd h O b ((ls.getD i []).map zI)
theorem RdLL.more {h h' : View} {O O' : Hp} {a : Option Addr} {ls : List (List Int)} (H : RdLL h O a ls) (hm : ∀ b o, h b = some o → h' b = some o) (hs : ∀ b o, (b, o) ∈ O → (b, o) ∈ O') : RdLL h' O' a ls := by
  obtain ⟨vs, h1, h2, h3⟩ := H
  exact ⟨vs, h1, h2.more hm hs, fun i hi => by obtain ⟨b, c, h4, h5⟩ := h3 i hi; exact ⟨b, c, h4, h5.more hm hs⟩⟩
/-- Loops whose view grows: the state tells the view, too. -/
inductive RoundV {X : Type} (W : List Nat) (s : List Value) (live : X → List (Nat × Value)) (Ox : X → Hp) (V : X → View) (F : X → Prop) (μ : X → Nat) (x : X) (s' : List Value) (h' : View) (O' : Hp) : Prop
  | mk (x' : X) (hm : μ x' < μ x) (hs : sameB 0 W (live x') s s') (h2 : View) (hV : h2 = V x') (O2 : Hp) (hO : O2 = Ox x') (wk : Wk h' O' h2 O2) (hF : F x')
theorem MinMax.maxI {k k' : IntKind} {x y : Int} {K : Value → Prop} (hk : K (.int k (max x y))) : MinMax true [.int k x, .int k' y] K := by
  refine ⟨.int k (max x y), fun P w => ?_, hk⟩
  have : (if x < y then y else x) = max x y := by split <;> omega
  simp [Builtin.max_, Builtin.max2, this]
theorem MinMax.minI {k k' : IntKind} {x y : Int} {K : Value → Prop} (hk : K (.int k (min x y))) : MinMax false [.int k x, .int k' y] K := by
  refine ⟨.int k (min x y), fun P w => ?_, hk⟩
  have : (if y < x then y else x) = min x y := by split <;> omega
  simp [Builtin.min_, Builtin.min2, this]
theorem LoadSt.rdZ {h : View} {O : Hp} {a : Option Addr} {xs : List Int} {k : Nat} {K : Value → Prop} (H : Rd h O a (xs.map zI)) (hj : k < xs.length) (hk : K (.int .i64 (xs.getD k 0))) :
    LoadSt h O (blk a) (ofs a + k) none K := LoadSt.rd H (map_get 0 hj) hk
theorem Wk.congr {h h' : View} {O O' : Hp} (e1 : h = h') (e2 : O = O') : Wk h O h' O' := by subst e1 e2; exact Wk.refl _ _
end Gv
end Go
/- Sorting by a comparison (the library's slices.SortFunc), as a call of the logic. -/
namespace Go
namespace Gv
open Go.Shelf Go.RowKit Go.Lib Go.Sort Go.Proofs
variable {P : Program}

theorem flatK_get {α : Type} [Inhabited α] {enc : α → List Value} {k : Nat} (hk : ∀ x, (enc x).length = k) (xs : List α) (j : Nat) (hj : j < xs.length * k) : (xs.flatMap enc)[j]? = some (flatK enc k xs.toArray)[j]! := by
  have k0 : 0 < k := by
    rcases Nat.eq_zero_or_pos k with h | h
    · subst h; omega
    · exact h
  have h1 : j / k < xs.length := (Nat.div_lt_iff_lt_mul k0).2 hj
  have h2 : j % k < k := Nat.mod_lt _ k0
  have h3 := flat_get hk xs (j / k) (j % k) h1 h2
  rw [Nat.div_add_mod'] at h3
  rw [h3, get_flatK enc k xs.toArray j (by simpa using hj)]
  have h4 : xs.toArray[j / k]! = xs.getD (j / k) default := by simp [List.getD_eq_getElem?_getD, h1]
  rw [h4]
  have h5 : j % k < (enc (xs.getD (j / k) default)).length := by rw [hk]; exact h2
  rw [List.getElem?_eq_getElem h5, getElem!_pos (enc (xs.getD (j / k) default)) (j % k) h5]
theorem put_flat {α : Type} [Inhabited α] {enc : α → List Value} {k : Nat} (hk : ∀ x, (enc x).length = k) (xs ys : List α) (pad : List Value) (hl : ys.length = xs.length) :
    putCells id 0 (flatK enc k ys.toArray) ⟨xs.flatMap enc ++ pad⟩ = ⟨ys.flatMap enc ++ pad⟩ := by
  have lx := flat_length hk xs
  have ly := flat_length hk ys
  apply Array.ext'
  apply List.ext_getElem?
  intro i
  simp only [putCells, Array.toList_mapIdx, List.getElem?_mapIdx, size_flatK, List.size_toArray, Nat.zero_add, Nat.zero_le, true_and, Nat.sub_zero, id]
  by_cases hi : i < ys.length * k
  · rw [List.getElem?_append_left (by rw [lx, ← hl]; exact hi), List.getElem?_append_left (by rw [ly]; exact hi), flatK_get hk ys i hi, flatK_get hk xs i (by rw [← hl]; exact hi), Option.map_some, if_pos hi]
  · rw [List.getElem?_append_right (by rw [lx, ← hl]; omega), List.getElem?_append_right (by rw [ly]; omega), lx, ly, hl]
    cases pad[i - xs.length * k]? with
    | none => rfl
    | some v => rw [Option.map_some, if_neg (by rw [← hl]; exact hi)]
/-- slices.SortFunc on a row that is owned and not empty: the same elements, none behind one that is greater. -/
theorem sort_spec {ρ : Ren} {α : Type} [Inhabited α] (L : SlLaysF0.n6 P ρ) (k : Nat) (aE : ∀ w, (isAgg (ρ.t 24)).run P w = .ok true w) (zE : ∀ w, (Go.sizeOf (ρ.t 24)).run P w = .ok k w) (enc : α → List Value) (hk : ∀ x, (enc x).length = k)
    (h1 : ∀ x, ∀ v ∈ enc x, v.oneCell' = true) (cf : α → α → Int) (hO : SWO (ltOf cf)) (g : Nat) (cb : Array Value) (eg : ∀ args w, (callFunc g args).run P w = .ok (.enter g args) w) (hcmp : ∀ blk size w, CmpLays P g cb enc k cf blk 0 size w)
    (hfn : ∃ fn, P.funcs[ρ.f 6]? = some fn ∧ fn.body.isSome = true ∧ (fn.name == "runtime.NumGoroutine") = false) (b : Buf) (e : TypeId) (xs : List α) (h0 : 0 < xs.length) (hb : b.ok k (xs.flatMap enc) xs.length) (hsz : xs.length < 4611686018427387904) (h : View) :
    GSpec P (ρ.f 6) [.slice b.a xs.length b.cap, .func (.func g) #[] cb] h (b.hp e (xs.flatMap enc)) (fun v _ O' => ∃ ys : List α, ys.Perm xs ∧ ys.Pairwise (fun x y => ltOf cf y x = false) ∧ v = .tuple ⟨[]⟩ ∧ O' = b.hp e (ys.flatMap enc)) := by
  refine ⟨hfn, fun w hv => ?_⟩
  obtain ⟨a, cap, pad, fr⟩ := b
  rcases hb with ⟨hl, ⟨_, _, hn⟩ | ⟨ha, hc, hpd, hfr⟩⟩
  · omega
  simp only at ha hc hpd hfr
  generalize blk a = B at ha
  subst ha
  have eh : ∀ l : List Value, (Buf.mk (some ⟨B, 0, none⟩) cap pad fr).hp e l = [(B, .cells ⟨l ++ pad⟩ e fr)] := fun l => rfl
  simp only [eh] at hv ⊢
  have hB := hv.own B _ (List.Mem.head _)
  have hBlt := hv.lt (List.Mem.head _)
  have hH : HoldsK enc k w B 0 xs.toArray := fun j hj => by
    have hj : j < xs.length * k := by simpa using hj
    have hg := flatK_get hk xs j hj
    rw [Nat.zero_add]
    constructor
    · refine cell_of hB ?_
      show (Array.mk (xs.flatMap enc ++ pad))[j]? = _
      rw [List.getElem?_toArray, List.getElem?_append_left (by rw [hl]; exact hj), hg]; rfl
    · unfold World.frozen?
      simp only [hB]
      have : xs.length * k ≤ cap * k := Nat.mul_le_mul_right k hc
      by_cases hx : fr.1 ≤ j ∧ j < fr.2
      · exfalso; omega
      · simp
        omega
  have hcon := AnyQ.slices_SortFunc L k aE zE enc hk h1 cf hO g cb B 0 cap xs.toArray w eg (hcmp _ _ _) hH hBlt (by simpa using hsz)
  refine Calls.mono hcon ?_
  rintro x w' ⟨rfl, d', n, os, hp, hs, rfl⟩
  have hsize : d'.size = xs.length := by simpa using hp.1
  have hperm : d'.toList.Perm xs := by
    have := hp.2.2
    simp only [List.size_toArray] at this
    rw [show d'.extract 0 xs.length = d' by rw [← hsize]; simp, show xs.toArray.extract 0 xs.length = xs.toArray by simp] at this
    simpa using this
  have hput := put_flat hk xs d'.toList pad (by simpa using hsize)
  refine ⟨_, h, [(B, .cells ⟨d'.toList.flatMap enc ++ pad⟩ e fr)], rfl, ?_, d'.toList, hperm, ?_, rfl, rfl⟩
  · have hheap : ∀ c, c < w.heap.size → (sortWorldK enc k w B 0 n d' os).heap[c]? = if c = B then some (.cells ⟨d'.toList.flatMap enc ++ pad⟩ e fr) else w.heap[c]? := fun c hc => by
      show ((w.heap.modify B (onCells (putCells id 0 (flatK enc k d')))) ++ os)[c]? = _
      rw [Array.getElem?_append_left (by simpa using hc), Array.getElem?_modify]
      by_cases h2 : B = c
      · subst h2
        rw [if_pos rfl, if_pos rfl, hB, Option.map_some]
        have : d'.toList.toArray = d' := by simp
        rw [this] at hput
        simp only [onCells, hput]
      · rw [if_neg h2, if_neg (fun e => h2 e.symm)]
    refine ⟨rfl, rfl, rfl, fun _ _ e => e, ⟨fun c o hc => ?_, fun c o hc => ?_, by simp, fun c o hc => ?_⟩, ?_, fun c hc hne => ?_, fun _ e => .inl e, fun c o hc => ?_⟩
    · have h3 := hv.per c o hc
      have h4 := hv.ltv hc
      rw [hheap c h4, if_neg ?_, h3]
      intro h5
      subst h5
      rw [hv.apart c _ (List.Mem.head _)] at hc
      cases hc
    · simp only [List.mem_singleton, Prod.mk.injEq] at hc
      obtain ⟨rfl, rfl⟩ := hc
      rw [hheap c hBlt, if_pos rfl]
    · simp only [List.mem_singleton, Prod.mk.injEq] at hc
      obtain ⟨rfl, rfl⟩ := hc
      exact hv.apart c _ (List.Mem.head _)
    · show w.heap.size ≤ ((w.heap.modify B (onCells (putCells id 0 (flatK enc k d')))) ++ os).size
      simp
    · rw [hheap c hc, if_neg]
      intro h5
      subst h5
      exact hne _ (List.Mem.head _)
    · simp only [List.mem_singleton, Prod.mk.injEq] at hc
      obtain ⟨rfl, rfl⟩ := hc
      exact .inr ⟨_, List.Mem.head _⟩
  · rw [List.pairwise_iff_getElem]
    intro i j hi hj hij
    have := hs i j (Nat.zero_le _) hij (by simpa [hsize] using hj)
    simp only [Array.length_toList] at hi hj
    rw [getElem!_pos d' j hj, getElem!_pos d' i hi] at this
    simpa using this
end Gv
end Go
/- Rules: slices of structs that a function makes, fills and hands on. -/
namespace Go
namespace Gv
variable {P : Program}
theorem MakeSt.flat {α : Type} {g : α → List Value} {d : α} {inf : TypeInfo} {e : TypeId} {x y : Int} {n : Nat} {h : View} {O : Hp} {K : Value → View → Hp → Prop} (hz : zeroCellsOf inf = some (g d)) (hs : (g d).length = inf.size) (hx : x = n) (hy : y = n) (hb : inf.bytes * n ≤ 281474976710656) (h3 : n ≤ 9223372036854775807)
    (hk : ∀ b, h b = none → (∀ o, (b, o) ∉ O) → K (.slice (some ⟨b, 0, none⟩) n n) h ((b, .cells ⟨(List.replicate n d).flatMap g⟩ e (0, 0)) :: O)) : MakeSt inf e x y h O K :=
  .n hx hy hb h3 _ hz hs fun b h1 h2 => by
    have : rows n (g d) = (List.replicate n d).flatMap g := by unfold rows; rw [List.flatMap_replicate]
    rw [this]; exact hk b h1 h2
theorem LoadSt.owna {α : Type} [Inhabited α] {h : View} {O : Hp} {b k n : Nat} {g : α → List Value} {xs : List α} {s : Nat} {y : α} {ty : TypeId} {fr : Nat × Nat} {K : Value → Prop} (hn : n = s) (m : (b, Obj.cells ⟨xs.flatMap g⟩ ty fr) ∈ O) (hg : ∀ x, (g x).length = s) (hs : 0 < s) (hj : k < xs.length)
    (hy : xs.getD k default = y) (hk : K (.agg ⟨g y⟩)) : LoadSt h O b (0 + k * s) (some n) K := by
  subst hy hn
  exact LoadSt.rda (a := some ⟨b, 0, none⟩) (Rd.own0 m) hg hs hj hk
theorem StoreSt.flat {α : Type} {h : View} {O : Hp} {b j s : Nat} {vs : List Value} {g : α → List Value} {xs ys : List α} {x : α} {ty : TypeId} {f : List Value → Hp} {K : View → Hp → Prop} (u : Upd O b (xs.flatMap g) ty (0, 0) f)
    (hg : ∀ x, (g x).length = s) (hv : vs = g x) (h1 : (g x).all (·.oneCell') = true) (hj : j < xs.length) (hy : xs.set j x = ys) (hk : K h (f (ys.flatMap g))) : StoreSt h O b (0 + j * s) vs K := by
  subst hv hy
  have hl := flat_length hg xs
  have his : j * s + s ≤ xs.length * s := by
    have := Nat.mul_le_mul_right s (show j + 1 ≤ xs.length from hj)
    rw [Nat.add_mul, Nat.one_mul] at this; exact this
  rw [Nat.zero_add]
  exact .own u (by rw [hg, hl]; exact his) (.inl (Nat.le_refl _)) h1 (by rw [flat_set hg hj]; exact hk)
end Gv
end Go
/- Rules: a row appended to what has no room; a callee that only looks at what its caller owns. -/
namespace Go
namespace Gv
variable {P : Program}
/-- An append to a slice that has no room: what it makes is new. -/
theorem AppSt.grow {t t2 ty e : TypeId} {inf : TypeInfo} {a : Option Addr} {n m cp : Nat} {y : Value} {h : View} {O : Hp} {l ys : List Value} {K : Value → View → Hp → Prop} (hr : Rd h O a l) (hl : l.length = n * inf.size) (hg : cp < n + m)
    (hs : Srcs P h O inf.size t2 y m ys) (z : Value) (hz : inf.zero = some z) (hzl : (cellsL z).length = inf.size) (hfit : (n + m) * inf.bytes ≤ 140737488355328) (h63 : n + m ≤ 9223372036854775807)
    (hk : ∀ b' : Buf, b'.ok inf.size (l ++ ys) (n + m) → K (.slice b'.a (n + m) b'.cap) h (b'.hp e (l ++ ys) ++ O)) : AppSt P t t2 ty e inf (.slice a n cp) y h O K := by
  refine .mk fun hu hi _ w hv => ?_
  have hsrc := hs.src w hv
  have hlys : (l ++ ys).length = (n + m) * inf.size := by rw [List.length_append, hl, hsrc.newsLen, Nat.add_mul]
  have hold : (Builtin.firstCells inf.size n (.slice a n cp)).run P w.drew = .ok l.toArray w.drew := by
    rcases hr.cells hv.drew with h0 | ⟨ha, hc⟩
    · cases ha : a with
      | none => rw [run_firstCells_none, h0]
      | some a0 => exact run_firstCells_some _ _ _ _ _ _ l hl (by rw [h0]; simp)
    · rw [ha]; exact run_firstCells_some _ _ _ _ _ _ l hl hc
  have hrun := run_append_grow_src (P := P) w t t2 ty e inf z hu hi hz a n cp l hold y m ys hsrc hg (by omega) (growslice_fits hg hfit)
  have hge := grownCap_ge w (n + m) cp e
  generalize hcap : grownCap w (n + m) cp e = cap at hrun hge
  have hzero : Builtin.zeroCells z.cells (cap - (n + m)) = ⟨rows (cap - (n + m)) (cellsL z)⟩ := by
    unfold Builtin.zeroCells
    rw [cells_arr]
    exact zeroRow (cellsL z) _ _ rfl
  have hobj : ((l ++ ys).toArray ++ Builtin.zeroCells z.cells (cap - (n + m)) : Array Value) = ⟨l ++ ys ++ rows (cap - (n + m)) (cellsL z)⟩ := by
    rw [hzero]; apply Array.ext'; simp
  rw [hobj] at hrun
  obtain ⟨st, f1, f2⟩ := Step.alloc (w' := w.drew.alloc (.cells ⟨l ++ ys ++ rows (cap - (n + m)) (cellsL z)⟩ e)) (obj := .cells ⟨l ++ ys ++ rows (cap - (n + m)) (cellsL z)⟩ e) hv rfl rfl rfl rfl
  let b' : Buf := ⟨some ⟨w.heap.size, 0, none⟩, cap, rows (cap - (n + m)) (cellsL z), (0, 0)⟩
  have hk' := hk b' ⟨hlys, .inr ⟨rfl, hge, by simp only [b', rows_length, hzl], .inl (Nat.le_refl _)⟩⟩
  exact ⟨_, _, h, _, hrun, st, hk'⟩
/-- What is owned may be shown to a callee that does not write it. -/
theorem GSpec.keep {f : FuncId} {args : List Value} {h : View} {O H : Hp} {R : Value → Hp → Prop}
    (sp : (H.map Prod.fst).Nodup → (∀ b o, (b, o) ∈ H → h b = none) → GSpec P f args (pub h H) O fun v _ O' => R v O')
    (hf : ∃ fn, P.funcs[f]? = some fn ∧ fn.body.isSome = true ∧ (fn.name == "runtime.NumGoroutine") = false) : GSpec P f args h (H ++ O) fun v _ O'' => ∃ O', O'' = H ++ O' ∧ R v O' := by
  refine ⟨hf, fun w hv => ?_⟩
  have hn := hv.nodup
  rw [List.map_append, List.nodup_append] at hn
  have ha : ∀ b o, (b, o) ∈ H → h b = none := fun b o m => hv.apart b o (List.mem_append_left _ m)
  obtain ⟨_, sp⟩ := sp hn.1 ha
  refine (sp w (hv.wk Wk.pub)).mono ?_
  rintro e w' ⟨v, h', O', rfl, st, hR⟩
  have hH : ∀ b o, (b, o) ∈ H → h' b = some o := fun b o m => st.mono b o (pub_of_mem hn.1 m (ha b o m))
  have hh : ∀ b o, h b = some o → h' b = some o := fun b o e => st.mono b o (pub_mono b o e)
  have hO' : ∀ b o, (b, o) ∈ O' → h b = none := fun b o m => by
    have := st.val.apart b o m
    cases e : h b with
    | none => rfl
    | some x => rw [hh b x e] at this; cases this
  refine ⟨v, h, H ++ O', rfl, ⟨st.os, st.tape, st.output, fun _ _ e => e, ⟨fun b o e => st.val.per b o (hh b o e), fun b o m => ?_, ?_, fun b o m => ?_⟩, st.size, fun b hb hne => st.kept b hb fun o m => hne o (List.mem_append_right _ m), fun b e => .inl e, fun b o m => ?_⟩, O', rfl, hR⟩
  · rcases List.mem_append.1 m with m | m
    · exact st.val.per b o (hH b o m)
    · exact st.val.own b o m
  · rw [List.map_append, List.nodup_append]
    refine ⟨hn.1, st.val.nodup, fun x hx y hy hxy => ?_⟩
    subst hxy
    obtain ⟨⟨x1, o1⟩, hx1, rfl⟩ := List.mem_map.1 hx
    obtain ⟨⟨y1, o2⟩, hy1, e⟩ := List.mem_map.1 hy
    simp only at e; subst e
    have h1 := hH _ _ hx1
    rw [st.val.apart _ _ hy1] at h1
    cases h1
  · rcases List.mem_append.1 m with m | m
    · exact ha b o m
    · exact hO' b o m
  · rcases List.mem_append.1 m with m | m
    · exact .inr ⟨o, List.mem_append_left _ m⟩
    · rcases st.freshO b o m with h1 | ⟨o', h1⟩
      · exact .inl h1
      · exact .inr ⟨o', List.mem_append_right _ h1⟩
theorem GSpec.perm {f : FuncId} {args : List Value} {h : View} {O : Hp} {R R' : Value → Hp → Prop} (sp : GSpec P f args h O fun v _ O' => R v O') (hm : ∀ v O', R v O' → ∃ O'', O'.Perm O'' ∧ R' v O'') : GSpec P f args h O fun v _ O' => R' v O' :=
  ⟨sp.1, fun w hv => (sp.2 w hv).mono (by
    rintro e w' ⟨v, h', O', rfl, st, hR⟩
    obtain ⟨O'', hp, hR'⟩ := hm v O' hR
    exact ⟨v, h', O'', rfl, st.postWk (Wk.perm hp), hR'⟩)⟩
/-- A callee that only reads and makes what is new: it may read what the caller owns. -/
theorem GSpec.shown {f : FuncId} {args : List Value} {h : View} {O : Hp} {R : Value → Hp → Prop} (hf : ∃ fn, P.funcs[f]? = some fn ∧ fn.body.isSome = true ∧ (fn.name == "runtime.NumGoroutine") = false)
    (sp : (O.map Prod.fst).Nodup → (∀ b o, (b, o) ∈ O → h b = none) → GSpec P f args (pub h O) [] (New [] R)) : GSpec P f args h O (New O R) := by
  have k := GSpec.keep (O := []) (R := fun v O' => ∃ H, O' = H ++ [] ∧ R v H) sp hf
  rw [List.append_nil] at k
  refine GSpec.perm k ?_
  rintro v O'' ⟨O', rfl, H, rfl, hR⟩
  rw [List.append_nil]
  exact ⟨H ++ O, List.perm_append_comm, H, rfl, hR⟩
theorem Lk.pub {h : View} {O : Hp} {b : Nat} {o : Obj} (hn : (O.map Prod.fst).Nodup) (ha : ∀ b o, (b, o) ∈ O → h b = none) (H : Lk h O b o) : Lk (Gv.pub h O) [] b o := by
  cases H with
  | own m => exact .per (pub_of_mem hn m (ha b o m))
  | per e => exact .per (pub_mono b o e)
theorem Rd.pub {h : View} {O : Hp} {a : Option Addr} {l : List Value} (hn : (O.map Prod.fst).Nodup) (ha : ∀ b o, (b, o) ∈ O → h b = none) (H : Rd h O a l) : Rd (Gv.pub h O) [] a l := by
  rcases H with h0 | ⟨h1, c, ty, fr, hb, hc⟩
  · exact .inl h0
  · exact .inr ⟨h1, c, ty, fr, hb.pub hn ha, hc⟩
theorem Rd.any {h : View} {O : Hp} {a : Option Addr} {l : List Value} (H : Rd h [] a l) : Rd h O a l := H.more (fun _ _ e => e) fun _ _ m => by cases m
end Gv
end Go
/- Regions whose order is open: one operation that makes may stand ahead of, between and behind calls that follow one another. -/
namespace Go
namespace Gv
variable {P : Program}
/-- The calls C one behind the other, the operation r ahead of any of them or behind the last one. -/
def Fl (P : Program) (ops : Array Oper) (K : List Value → View → Hp → Prop) (r : Nat) (B : List Nat) : List Nat → List Value → View → Hp → Prop
  | [] => fun s h O => SOps P ops K (r :: B) s h O
  | p :: C => fun s h O => SOps P ops K (r :: p :: (C ++ B)) s h O ∧ SOps P ops (Fl P ops K r B C) [p] s h O
theorem Fl.now {ops : Array Oper} {K : List Value → View → Hp → Prop} {r : Nat} {B : List Nat} : ∀ {C : List Nat} {s : List Value} {h : View} {O : Hp}, Fl P ops K r B C s h O → SOps P ops K (r :: (C ++ B)) s h O
  | [], _, _, _, k => k
  | _ :: _, _, _, _, k => k.1
theorem SOps.anyR {ops : Array Oper} {K : List Value → View → Hp → Prop} {Q : Exit → Act → World → Prop} (hsel : Region.noSelect ops = true) {r : Nat} {B : List Nat} (hB : ∀ x ∈ B, Blk ops r x) : ∀ (n : Nat) (A C : List Nat) (hC : C.Pairwise (Blk ops)) (listed : Array Bool) (s : List Value) (h : View) (O : Hp) (a : Act) (w : World),
    (A ++ (C ++ r :: B)).length = n → Inv P (fun u v => u ∈ C ∧ v = r) ops (A ++ (C ++ r :: B)) listed → SOps P ops (Fl P ops K r B C) A s h O → a.tmps = ⟨s⟩ → a.defers = [] → Val h O w →
    (∀ s' h' O' a' w', a'.tmps = ⟨s'⟩ → a'.defers = [] → Step h O w h' O' w' → K s' h' O' → Q .normal a' w') → wpAny P .any ops Q n listed a w := by
  intro n
  induction n with
  | zero =>
    intro A C hC listed s h O a w hl
    simp at hl
  | succ n ih =>
    intro A C hC listed s h O a w hl hi hk ha hd hv hq
    have hn := hi.nodup
    refine ⟨fun he => ?_, fun x hx => ?_⟩
    · have : ∃ y L, A ++ (C ++ r :: B) = y :: L := by
        cases A with
        | nil => cases C with
          | nil => exact ⟨_, _, rfl⟩
          | cons y L => exact ⟨_, _, rfl⟩
        | cons y L => exact ⟨_, _, rfl⟩
      obtain ⟨y, L, e⟩ := this
      rw [e] at hi
      have := hi.ready
      rw [he] at this; cases this
    · have hm := (hi.mem x).2 (mem_ready.1 hx).1
      have hnA : ∀ y ∈ A, y ∉ C ∧ y ≠ r := fun y hy => by
        rw [List.nodup_append] at hn
        exact ⟨fun hc => hn.2.2 y hy y (by simp [hc]) rfl, fun e => hn.2.2 y hy r (by simp) e⟩
      have pre : ∀ (A1 D : List Nat), A ++ (C ++ r :: B) = A1 ++ x :: D → (∀ y ∈ A1, ¬ (y ∈ C ∧ x = r)) → ∀ y ∈ A1, comm2 P ops y x = true := by
        intro A1 D e hne y hy
        have hpw := hi.pw
        have hnn := hi.nodup
        rw [e] at hpw hnn
        have h1 := (List.pairwise_append.1 hpw).2.2 y hy x (by simp)
        rcases h1.1 with e1 | e1 | e1 | e1
        · rw [List.nodup_append] at hnn
          exact absurd e1.symm (hnn.2.2 y hy x (by simp))
        · exact e1
        · exact absurd hx (e1 listed hi.size hi.closed ((hi.mem y).1 (by rw [e]; simp [hy])))
        · exact absurd e1 (hne y hy)
      rcases List.mem_append.1 hm with h1 | h1
      · -- one ahead of all
        obtain ⟨A1, A2, rfl⟩ := List.append_of_mem h1
        have hc := pre A1 (A2 ++ (C ++ r :: B)) (by simp) fun y hy ⟨e, _⟩ => (hnA y (by simp [hy])).1 e
        obtain ⟨o, ho, hk⟩ := SOps.front hsel A1 A2 s h O ⟨w, hv⟩ hc hk
        refine hk.wpOp ho ha hv fun v h' O' w' st k => ?_
        have hi2 : Inv P (fun u v => u ∈ C ∧ v = r) ops (A1 ++ x :: (A2 ++ (C ++ r :: B))) listed := by simpa using hi
        exact ih (A1 ++ A2) C hC _ _ h' O' _ w' (by simp at hl ⊢; omega) (by simpa using hi2.step hx) k (put_tmps ha _ _) (by rw [put_defers]; exact hd) st.val
          fun s2 h2 O2 a2 w2 e1 e2 st2 k2 => hq s2 h2 O2 a2 w2 e1 e2 (st.trans st2) k2
      · rcases List.mem_append.1 h1 with h1 | h1
        · -- one of the calls: the first
          cases C with
          | nil => cases h1
          | cons p C =>
            have hC1 := List.pairwise_cons.1 hC
            have hxp : x = p := by
              rcases List.mem_cons.1 h1 with e | h1
              · exact e
              · exact absurd hx (hC1.1 x h1 listed hi.size hi.closed ((hi.mem p).1 (by simp)))
            subst hxp
            have hxr : x ≠ r := fun e => by
              rw [List.nodup_append, List.nodup_append] at hn
              exact hn.2.1.2.2 x (by simp) r (by simp) e
            have hc := pre A (C ++ r :: B) rfl fun y hy ⟨_, e⟩ => hxr e
            have hk1 := SOps.app [x] A s h O (SOps.mono (fun s h O k => k.2) A s h O hk)
            obtain ⟨o, ho, hk⟩ := SOps.front hsel A [] s h O ⟨w, hv⟩ hc hk1
            rw [List.append_nil] at hk
            refine hk.wpOp ho ha hv fun v h' O' w' st k => ?_
            have hi2 := Inv.step (A := A) (B := C ++ r :: B) hi hx
            refine ih A C hC1.2 _ _ h' O' _ w' (by simp at hl ⊢; omega) ⟨hi2.size, hi2.mem, hi2.nodup, ?_, hi2.selfE, hi2.closed, hi2.lt⟩ k (put_tmps ha _ _) (by rw [put_defers]; exact hd) st.val
              fun s2 h2 O2 a2 w2 e1 e2 st2 k2 => hq s2 h2 O2 a2 w2 e1 e2 (st.trans st2) k2
            have hnn := hi2.nodup
            have hxo : x ∉ A ++ (C ++ r :: B) := by
              intro hx2
              have hn2 := hi.nodup
              rw [List.nodup_append] at hn2
              rcases List.mem_append.1 hx2 with h3 | h3
              · exact hn2.2.2 x h3 x (by simp) rfl
              · have := (List.nodup_cons.1 (by simpa using hn2.2.1 : (x :: (C ++ r :: B)).Nodup)).1
                exact this h3
            refine hi2.pw.imp_of_mem fun {u v} hu hv ⟨e1, e2⟩ => ⟨?_, e2⟩
            rcases e1 with e1 | e1 | e1 | e1
            · exact .inl e1
            · exact .inr (.inl e1)
            · exact .inr (.inr (.inl e1))
            · rcases List.mem_cons.1 e1.1 with e3 | e3
              · exact absurd (e3 ▸ hu) hxo
              · exact .inr (.inr (.inr ⟨e3, e1.2⟩))
        · rcases List.mem_cons.1 h1 with rfl | h1
          · -- the one that makes
            have hk1 := SOps.app _ A s h O (SOps.mono (fun s h O k => Fl.now k) A s h O hk)
            have hc : ∀ y ∈ A, comm2 P ops y x = true := fun y hy => by
              have hpw := hi.pw
              have h1 := (List.pairwise_append.1 hpw).2.2 y hy x (by simp)
              rcases h1.1 with e1 | e1 | e1 | e1
              · exact absurd e1.symm (hnA y hy).2
              · exact e1
              · exact absurd hx (e1 listed hi.size hi.closed ((hi.mem y).1 (by simp [hy])))
              · exact absurd e1.1 (hnA y hy).1
            obtain ⟨o, ho, hk⟩ := SOps.front hsel A (C ++ B) s h O ⟨w, hv⟩ hc hk1
            refine hk.wpOp ho ha hv fun v h' O' w' st k => ?_
            have hi2 : Inv P (fun u v => u ∈ C ∧ v = x) ops ((A ++ C) ++ x :: B) listed := by simpa using hi
            have hi3 : Inv P (fun u v => u ∈ C ∧ v = x) ops (A ++ (C ++ B)) (listed.setIfInBounds x true) := by simpa using hi2.step hx
            refine SOps.any hsel n (A ++ (C ++ B)) _ _ h' O' _ w' (by simp at hl ⊢; omega) (hi3.none fun u _ v hv ⟨_, e⟩ => ?_) k (put_tmps ha _ _) (by rw [put_defers]; exact hd) st.val
              fun s2 h2 O2 a2 w2 e1 e2 st2 k2 => hq s2 h2 O2 a2 w2 e1 e2 (st.trans st2) k2
            have hnn := hi2.nodup
            rw [e] at hv
            rw [List.nodup_append, List.nodup_cons] at hnn
            rcases List.mem_append.1 hv with h2 | h2
            · exact hnn.2.2 x (by simp [h2]) x (by simp) rfl
            · rcases List.mem_append.1 h2 with h2 | h2
              · exact hnn.2.2 x (by simp [h2]) x (by simp) rfl
              · exact hnn.2.1.1 h2
          · exact absurd hx (hB x h1 listed hi.size hi.closed ((hi.mem r).1 (by simp)))
def pairsOkR (P : Program) (ops : Array Oper) (C : List Nat) (q : Nat) : List Nat → Bool
  | [] => true
  | a :: r => (let B := hang ops [a] r; r.all fun x => (comm2 P ops a x || B.any (Nat.beq x) || (C.any (Nat.beq a) && Nat.beq x q)) && !edges ops a x) && pairsOkR P ops C q r
theorem pairs_ofR {ops : Array Oper} {C : List Nat} {q : Nat} : ∀ L : List Nat, pairsOkR P ops C q L = true → L.Pairwise fun a x => (x = a ∨ comm2 P ops a x = true ∨ Blk ops a x ∨ (a ∈ C ∧ x = q)) ∧ edges ops a x = false
  | [], _ => .nil
  | a :: r, h => by
    simp only [pairsOkR, Bool.and_eq_true, List.all_eq_true] at h
    refine .cons (fun x hx => ?_) (pairs_ofR r h.2)
    obtain ⟨h1, h2⟩ := h.1 x hx
    refine ⟨?_, by simpa using h2⟩
    by_cases e : x = a
    · exact .inl e
    · rcases Bool.or_eq_true _ _ ▸ h1 with h3 | h3
      · rcases Bool.or_eq_true _ _ ▸ h3 with h3 | h3
        · exact .inr (.inl h3)
        · obtain ⟨b, hb, he⟩ := List.any_eq_true.1 h3
          rw [← Nat.eq_of_beq_eq_true he] at hb
          exact .inr (.inr (.inl (blk_of hb e)))
      · simp only [Bool.and_eq_true] at h3
        obtain ⟨b, hb, he⟩ := List.any_eq_true.1 h3.1
        rw [← Nat.eq_of_beq_eq_true he] at hb
        exact .inr (.inr (.inr ⟨hb, Nat.eq_of_beq_eq_true h3.2⟩))
def chainOk (ops : Array Oper) : List Nat → Bool
  | [] => true
  | p :: r => (let B := hang ops [p] r; r.all fun x => B.any (Nat.beq x) && !Nat.beq x p) && chainOk ops r
theorem chain_of {ops : Array Oper} : ∀ C : List Nat, chainOk ops C = true → C.Pairwise (Blk ops)
  | [], _ => .nil
  | p :: r, h => by
    simp only [chainOk, Bool.and_eq_true, List.all_eq_true] at h
    refine .cons (fun x hx => ?_) (chain_of r h.2)
    obtain ⟨h1, h2⟩ := h.1 x hx
    obtain ⟨b, hb, he⟩ := List.any_eq_true.1 h1
    rw [← Nat.eq_of_beq_eq_true he] at hb
    exact blk_of hb fun e => by rw [e] at h2; simp at h2
def drawOkR (P : Program) (ops : Array Oper) (A C : List Nat) (q : Nat) (B : List Nat) : Bool :=
  let L := A ++ (C ++ q :: B)
  pairsOkR P ops C q L && Nat.beq L.length ops.size && L.all (fun i => Nat.blt i ops.size && !edges ops i i) && (List.range ops.size).all (fun i => L.any (Nat.beq i)) &&
    ops.toList.all (fun o => o.after.toList.all fun e => !Region.binds .any e || Nat.blt e.on ops.size) && Region.noSelect ops && noRep L && (B.all fun x => (hang ops [q] B).any (Nat.beq x) && !Nat.beq x q) && chainOk ops C
theorem Inv.startR {ops : Array Oper} {A C B : List Nat} {q : Nat} (h : drawOkR P ops A C q B = true) : Inv P (fun u v => u ∈ C ∧ v = q) ops (A ++ (C ++ q :: B)) (Array.replicate ops.size false) ∧ (A ++ (C ++ q :: B)).length = ops.size ∧ Region.noSelect ops = true ∧ (∀ x ∈ B, Blk ops q x) ∧ C.Pairwise (Blk ops) := by
  unfold drawOkR at h
  simp only at h
  simp only [Bool.and_eq_true] at h
  obtain ⟨⟨⟨⟨⟨⟨⟨⟨h1, h2⟩, h3⟩, h4⟩, h5⟩, h6⟩, h7⟩, h8⟩, h9⟩ := h
  have hlen := Nat.eq_of_beq_eq_true h2
  have hin : ∀ i, i < ops.size → i ∈ A ++ (C ++ q :: B) := by
    intro i hi
    have := List.all_eq_true.1 h4 i (List.mem_range.2 hi)
    obtain ⟨b, hb, e⟩ := List.any_eq_true.1 this
    rw [Nat.eq_of_beq_eq_true e]; exact hb
  have hlt : ∀ i ∈ A ++ (C ++ q :: B), i < ops.size ∧ edges ops i i = false := by
    intro i hi
    have := List.all_eq_true.1 h3 i hi
    simp only [Bool.and_eq_true] at this
    exact ⟨Nat.le_of_ble_eq_true this.1, by simpa using this.2⟩
  have hnd : (A ++ (C ++ q :: B)).Nodup := noRep_nodup _ h7
  refine ⟨⟨by simp, fun i => ?_, hnd, pairs_ofR _ h1, fun i hi => (hlt i hi).2, fun i j _ hl => ?_, fun i j he => ?_⟩, hlen, h6, fun x hx => ?_, chain_of C h9⟩
  · constructor
    · intro hi; simp [Array.getD_eq_getD_getElem?, (hlt i hi).1]
    · intro hi
      refine hin i ?_
      rcases Nat.lt_or_ge i ops.size with h7 | h7
      · exact h7
      · rw [Array.getD_eq_getD_getElem?, Array.getElem?_eq_none (by simpa using h7)] at hi; cases hi
  · exfalso
    simp only [Array.getD_eq_getD_getElem?, Array.getElem?_replicate] at hl
    split at hl <;> simp at hl
  · unfold edges at he
    rw [Array.getElem?_toList] at he
    cases ho : ops[i]? with
    | none => rw [ho] at he; cases he
    | some o =>
      rw [ho] at he
      simp only [List.any_eq_true, Bool.and_eq_true] at he
      obtain ⟨e, hm, hb, hj⟩ := he
      have := List.all_eq_true.1 (List.all_eq_true.1 h5 o (by simpa using Array.mem_of_getElem? ho)) e hm
      rw [hb] at this
      simp only [Bool.not_true, Bool.false_or] at this
      rw [← Nat.eq_of_beq_eq_true hj]
      exact Nat.le_of_ble_eq_true this
  · have := List.all_eq_true.1 h8 x hx
    simp only [Bool.and_eq_true] at this
    obtain ⟨b, hb, he⟩ := List.any_eq_true.1 this.1
    rw [← Nat.eq_of_beq_eq_true he] at hb
    exact blk_of hb (fun e => by have h9 := this.2; rw [e] at h9; simp at h9)
def FlG (P : Program) (ops : Array Oper) (K : List Value → View → Hp → Prop) (r : Nat) (B : List Nat) : List Nat → List Value → View → Hp → Prop
  | [] => fun s h O => opsG P ops.toList (r :: B) s h O K
  | p :: C => fun s h O => opsG P ops.toList (r :: p :: (C ++ B)) s h O K ∧ opsG P ops.toList [p] s h O (FlG P ops K r B C)
theorem Fl.of_G {ops : Array Oper} {K : List Value → View → Hp → Prop} {r : Nat} {B : List Nat} : ∀ (C : List Nat) (s : List Value) (h : View) (O : Hp), FlG P ops K r B C s h O → Fl P ops K r B C s h O
  | [], s, h, O, k => SOps.of_opsG _ s h O k
  | p :: C, s, h, O, k => ⟨SOps.of_opsG _ s h O k.1, SOps.mono (fun s h O k => Fl.of_G C s h O k) [p] s h O (SOps.of_opsG _ s h O k.2)⟩
/-- The order A, then the calls C with the operation r ahead of any of them or behind the last one, then B. -/
theorem DrawSt.walkR {ops : Array Oper} {s : List Value} {h : View} {O : Hp} {K : List Value → View → Hp → Prop} (A C : List Nat) (r : Nat) (B : List Nat) (hm : P.follows .mixedOrders = true) (hL : drawOkR P ops A C r B = true)
    (hk : opsG P ops.toList A s h O (FlG P ops K r B C)) : DrawSt P ops s h O K := by
  refine .mk fun id Q a w ha hd hv hq => wp_region_any hm ?_
  obtain ⟨hi, hlen, hsel, hB, hC⟩ := Inv.startR hL
  have st := hv.drawn (w.drawn + 1)
  refine SOps.anyR (K := K) hsel hB ops.size A C hC _ s h O a _ hlen hi (SOps.mono (fun s h O k => Fl.of_G C s h O k) A s h O (SOps.of_opsG A s h O hk)) ha hd st.val fun s2 h2 O2 a2 w2 e1 e2 st2 k2 => hq s2 h2 O2 a2 w2 e1 e2 (st.trans st2) k2
end Gv
end Go
/- Rules: one cell of a block that is owned, read and written. -/
namespace Go
namespace Gv
variable {P : Program}
theorem setRange_one (l : List Value) (n : Nat) (v : Value) : setRange l n [v] = l.set n v := by rw [setRange_cons, setRange_nil]
theorem StoreSt.cell {h : View} {O : Hp} {b off k : Nat} {vs l l' : List Value} {v : Value} {ty : TypeId} {f : List Value → Hp} {K : View → Hp → Prop} (u : Upd O b l ty (0, 0) f)
    (hv : vs = [v]) (ho : off = k) (hb : k < l.length) (h1 : v.oneCell' = true) (hl : l.set k v = l') (hk : K h (f l')) : StoreSt h O b off vs K := by
  subst hv ho hl
  exact .own u (by simp only [List.length_cons, List.length_nil]; omega) (.inl (Nat.le_refl _)) (by simp [h1]) (by rw [setRange_one]; exact hk)
theorem LoadSt.cell {h : View} {O : Hp} {b off k : Nat} {l : List Value} {v : Value} {ty : TypeId} {fr : Nat × Nat} {K : Value → Prop} (m : (b, Obj.cells ⟨l⟩ ty fr) ∈ O) (ho : off = k) (hb : k < l.length) (hv : l.getD k undef = v) (hk : K v) : LoadSt h O b off none K := by
  subst ho hv
  refine .own m (c := l.getD off undef) ?_ hk
  rw [List.getD_eq_getElem?_getD, List.getElem?_eq_getElem hb]; rfl
/-- A round of a loop that ends with what is owned in another order. -/
theorem RoundFix.perm {X : Type} {W : List Nat} {s : List Value} {live : X → List (Nat × Value)} {Ox : X → Hp} {F : X → Prop} {μ : X → Nat} {h1 : View} {x : X} {s' : List Value} {O' : Hp} (x' : X) (hm : μ x' < μ x) (hs : sameB 0 W (live x') s s') (hp : O'.Perm (Ox x')) (hF : F x') :
    RoundFix W s live Ox F μ h1 x s' h1 O' := .mk x' hm hs (Ox x') rfl (Wk.perm hp) hF
end Gv
end Go
