/- The walk's logic: numbers read, sorting, the view alone, single cells. -/
import Derived.Test.YtlbmlimaobkhpaaGd
import Derived.Shelf.SlSortCmp.WholeK
set_option linter.unusedVariables false
set_option linter.unusedSimpArgs false
set_option linter.unusedSectionVars false
/- Rules: what is read of blocks that are handed on; loops whose view grows. -/
namespace Go
namespace Gv
variable {P : Program}

/-- Whole numbers as words. -/
def zI (n : Int) : Value := .int .i64 n
/-- What a part that is owned tells by itself. -/
abbrev RdH (H : Hp) (a : Option Addr) (l : List Value) : Prop := Rd (fun _ => none) H a l
theorem Rd.ofH {h : View} {H : Hp} {a : Option Addr} {l : List Value} (r : RdH H a l) : Rd h H a l := r.more (fun _ _ e => by cases e) fun _ _ e => e
theorem RdH.app {H G : Hp} {a : Option Addr} {l : List Value} (r : RdH H a l) : RdH (H ++ G) a l := Rd.appL r
theorem RdH.skip {H G : Hp} {a : Option Addr} {l : List Value} (r : RdH H a l) : RdH (G ++ H) a l := Rd.appR r
/-- A list that a call hands on, to be read alone. -/
def LsR {α : Type} (g : α → List Value) (l : List α) (v : Value) (H : Hp) : Prop := ∃ a c, v = .slice a l.length c ∧ RdH H a (l.flatMap g) ∧ l.length ≤ c
/-- A list of lists, as it is read. -/
def RdLL (h : View) (O : Hp) (a : Option Addr) (ls : List (List Int)) : Prop :=
  ∃ vs : List Value, vs.length = ls.length ∧ Rd h O a vs ∧ ∀ i < ls.length, ∃ b c, vs.getD i undef = .slice b (ls.getD i []).length c ∧ Rd h O b ((ls.getD i []).map zI)
theorem RdLL.more {h h' : View} {O O' : Hp} {a : Option Addr} {ls : List (List Int)} (H : RdLL h O a ls) (hm : ∀ b o, h b = some o → h' b = some o) (hs : ∀ b o, (b, o) ∈ O → (b, o) ∈ O') : RdLL h' O' a ls := by
  obtain ⟨vs, h1, h2, h3⟩ := H
  exact ⟨vs, h1, h2.more hm hs, fun i hi => by obtain ⟨b, c, h4, h5⟩ := h3 i hi; exact ⟨b, c, h4, h5.more hm hs⟩⟩
/-- Loops whose view grows: the state tells the view, too. -/
inductive RoundV {X : Type} (W : List Nat) (s : List Value) (live : X → List (Nat × Value)) (Ox : X → Hp) (V : X → View) (F : X → Prop) (μ : X → Nat) (x : X) (s' : List Value) (h' : View) (O' : Hp) : Prop
  | mk (x' : X) (hm : μ x' < μ x) (hs : sameB 0 W (live x') s s') (h2 : View) (hV : h2 = V x') (O2 : Hp) (hO : O2 = Ox x') (wk : Wk h' O' h2 O2) (hF : F x')
theorem MinMax.maxI {k k' : IntKind} {x y : Int} {K : Value → Prop} (hk : K (.int k (max x y))) : MinMax true [.int k x, .int k' y] K := by
  refine ⟨.int k (max x y), fun P w => ?_, hk⟩
  have : (if x < y then y else x) = max x y := by split <;> omega
  simp [Builtin.max_, Builtin.max2, this]
theorem LoadSt.rdZ {h : View} {O : Hp} {a : Option Addr} {xs : List Int} {k : Nat} {K : Value → Prop} (H : Rd h O a (xs.map zI)) (hj : k < xs.length) (hk : K (.int .i64 (xs.getD k 0))) :
    LoadSt h O (blk a) (ofs a + k) none K := LoadSt.rd H (map_get 0 hj) hk
theorem Wk.congr {h h' : View} {O O' : Hp} (e1 : h = h') (e2 : O = O') : Wk h O h' O' := by subst e1 e2; exact Wk.refl _ _
end Gv
end Go
/- Sorting by a comparison (the library's slices.SortFunc), as a call of the logic. -/
namespace Go
namespace Gv
open Go.Shelf Go.RowKit Go.Lib Go.Sort Go.Proofs
variable {P : Program}

theorem flatK_get {α : Type} [Inhabited α] {enc : α → List Value} {k : Nat} (hk : ∀ x, (enc x).length = k) (xs : List α) (j : Nat) (hj : j < xs.length * k) : (xs.flatMap enc)[j]? = some (flatK enc k xs.toArray)[j]! := by
  have k0 : 0 < k := by
    rcases Nat.eq_zero_or_pos k with h | h
    · subst h; omega
    · exact h
  have h1 : j / k < xs.length := (Nat.div_lt_iff_lt_mul k0).2 hj
  have h2 : j % k < k := Nat.mod_lt _ k0
  have h3 := flat_get hk xs (j / k) (j % k) h1 h2
  rw [Nat.div_add_mod'] at h3
  rw [h3, get_flatK enc k xs.toArray j (by simpa using hj)]
  have h4 : xs.toArray[j / k]! = xs.getD (j / k) default := by simp [List.getD_eq_getElem?_getD, h1]
  rw [h4]
  have h5 : j % k < (enc (xs.getD (j / k) default)).length := by rw [hk]; exact h2
  rw [List.getElem?_eq_getElem h5, getElem!_pos (enc (xs.getD (j / k) default)) (j % k) h5]
theorem put_flat {α : Type} [Inhabited α] {enc : α → List Value} {k : Nat} (hk : ∀ x, (enc x).length = k) (xs ys : List α) (pad : List Value) (hl : ys.length = xs.length) :
    putCells id 0 (flatK enc k ys.toArray) ⟨xs.flatMap enc ++ pad⟩ = ⟨ys.flatMap enc ++ pad⟩ := by
  have lx := flat_length hk xs
  have ly := flat_length hk ys
  apply Array.ext'
  apply List.ext_getElem?
  intro i
  simp only [putCells, Array.toList_mapIdx, List.getElem?_mapIdx, size_flatK, List.size_toArray, Nat.zero_add, Nat.zero_le, true_and, Nat.sub_zero, id]
  by_cases hi : i < ys.length * k
  · rw [List.getElem?_append_left (by rw [lx, ← hl]; exact hi), List.getElem?_append_left (by rw [ly]; exact hi), flatK_get hk ys i hi, flatK_get hk xs i (by rw [← hl]; exact hi), Option.map_some, if_pos hi]
  · rw [List.getElem?_append_right (by rw [lx, ← hl]; omega), List.getElem?_append_right (by rw [ly]; omega), lx, ly, hl]
    cases pad[i - xs.length * k]? with
    | none => rfl
    | some v => rw [Option.map_some, if_neg (by rw [← hl]; exact hi)]
/-- slices.SortFunc on a row that is owned and not empty: the same elements, none behind one that is greater. -/
theorem sort_spec {ρ : Ren} {α : Type} [Inhabited α] (L : SlLaysF0.n6 P ρ) (k : Nat) (aE : ∀ w, (isAgg (ρ.t 24)).run P w = .ok true w) (zE : ∀ w, (Go.sizeOf (ρ.t 24)).run P w = .ok k w) (enc : α → List Value) (hk : ∀ x, (enc x).length = k)
    (h1 : ∀ x, ∀ v ∈ enc x, v.oneCell' = true) (cf : α → α → Int) (hO : SWO (ltOf cf)) (g : Nat) (cb : Array Value) (eg : ∀ args w, (callFunc g args).run P w = .ok (.enter g args) w) (hcmp : ∀ blk size w, CmpLays P g cb enc k cf blk 0 size w)
    (hfn : ∃ fn, P.funcs[ρ.f 6]? = some fn ∧ fn.body.isSome = true ∧ (fn.name == "runtime.NumGoroutine") = false) (b : Buf) (e : TypeId) (xs : List α) (h0 : 0 < xs.length) (hb : b.ok k (xs.flatMap enc) xs.length) (hsz : xs.length < 4611686018427387904) (h : View) :
    GSpec P (ρ.f 6) [.slice b.a xs.length b.cap, .func (.func g) #[] cb] h (b.hp e (xs.flatMap enc)) (fun v _ O' => ∃ ys : List α, ys.Perm xs ∧ ys.Pairwise (fun x y => ltOf cf y x = false) ∧ v = .tuple ⟨[]⟩ ∧ O' = b.hp e (ys.flatMap enc)) := by
  refine ⟨hfn, fun w hv => ?_⟩
  obtain ⟨a, cap, pad, fr⟩ := b
  rcases hb with ⟨hl, ⟨_, _, hn⟩ | ⟨ha, hc, hpd, hfr⟩⟩
  · omega
  simp only at ha hc hpd hfr
  generalize blk a = B at ha
  subst ha
  have eh : ∀ l : List Value, (Buf.mk (some ⟨B, 0, none⟩) cap pad fr).hp e l = [(B, .cells ⟨l ++ pad⟩ e fr)] := fun l => rfl
  simp only [eh] at hv ⊢
  have hB := hv.own B _ (List.Mem.head _)
  have hBlt := hv.lt (List.Mem.head _)
  have hH : HoldsK enc k w B 0 xs.toArray := fun j hj => by
    have hj : j < xs.length * k := by simpa using hj
    have hg := flatK_get hk xs j hj
    rw [Nat.zero_add]
    constructor
    · refine cell_of hB ?_
      show (Array.mk (xs.flatMap enc ++ pad))[j]? = _
      rw [List.getElem?_toArray, List.getElem?_append_left (by rw [hl]; exact hj), hg]; rfl
    · unfold World.frozen?
      simp only [hB]
      have : xs.length * k ≤ cap * k := Nat.mul_le_mul_right k hc
      by_cases hx : fr.1 ≤ j ∧ j < fr.2
      · exfalso; omega
      · simp
        omega
  have hcon := AnyQ.slices_SortFunc L k aE zE enc hk h1 cf hO g cb B 0 cap xs.toArray w eg (hcmp _ _ _) hH hBlt (by simpa using hsz)
  refine Calls.mono hcon ?_
  rintro x w' ⟨rfl, d', n, os, hp, hs, rfl⟩
  have hsize : d'.size = xs.length := by simpa using hp.1
  have hperm : d'.toList.Perm xs := by
    have := hp.2.2
    simp only [List.size_toArray] at this
    rw [show d'.extract 0 xs.length = d' by rw [← hsize]; simp, show xs.toArray.extract 0 xs.length = xs.toArray by simp] at this
    simpa using this
  have hput := put_flat hk xs d'.toList pad (by simpa using hsize)
  refine ⟨_, h, [(B, .cells ⟨d'.toList.flatMap enc ++ pad⟩ e fr)], rfl, ?_, d'.toList, hperm, ?_, rfl, rfl⟩
  · have hheap : ∀ c, c < w.heap.size → (sortWorldK enc k w B 0 n d' os).heap[c]? = if c = B then some (.cells ⟨d'.toList.flatMap enc ++ pad⟩ e fr) else w.heap[c]? := fun c hc => by
      show ((w.heap.modify B (onCells (putCells id 0 (flatK enc k d')))) ++ os)[c]? = _
      rw [Array.getElem?_append_left (by simpa using hc), Array.getElem?_modify]
      by_cases h2 : B = c
      · subst h2
        rw [if_pos rfl, if_pos rfl, hB, Option.map_some]
        have : d'.toList.toArray = d' := by simp
        rw [this] at hput
        simp only [onCells, hput]
      · rw [if_neg h2, if_neg (fun e => h2 e.symm)]
    refine ⟨rfl, rfl, rfl, fun _ _ e => e, ⟨fun c o hc => ?_, fun c o hc => ?_, by simp, fun c o hc => ?_⟩, ?_, fun c hc hne => ?_, fun _ e => .inl e, fun c o hc => ?_⟩
    · have h3 := hv.per c o hc
      have h4 := hv.ltv hc
      rw [hheap c h4, if_neg ?_, h3]
      intro h5
      subst h5
      rw [hv.apart c _ (List.Mem.head _)] at hc
      cases hc
    · simp only [List.mem_singleton, Prod.mk.injEq] at hc
      obtain ⟨rfl, rfl⟩ := hc
      rw [hheap c hBlt, if_pos rfl]
    · simp only [List.mem_singleton, Prod.mk.injEq] at hc
      obtain ⟨rfl, rfl⟩ := hc
      exact hv.apart c _ (List.Mem.head _)
    · show w.heap.size ≤ ((w.heap.modify B (onCells (putCells id 0 (flatK enc k d')))) ++ os).size
      simp
    · rw [hheap c hc, if_neg]
      intro h5
      subst h5
      exact hne _ (List.Mem.head _)
    · simp only [List.mem_singleton, Prod.mk.injEq] at hc
      obtain ⟨rfl, rfl⟩ := hc
      exact .inr ⟨_, List.Mem.head _⟩
  · rw [List.pairwise_iff_getElem]
    intro i j hi hj hij
    have := hs i j (Nat.zero_le _) hij (by simpa [hsize] using hj)
    simp only [Array.length_toList] at hi hj
    rw [getElem!_pos d' j hj, getElem!_pos d' i hi] at this
    simpa using this
end Gv
end Go
/- Rules: slices of structs that a function makes, fills and hands on. -/
namespace Go
namespace Gv
variable {P : Program}
end Gv
end Go
/- Rules: a row appended to what has no room; a callee that only looks at what its caller owns. -/
namespace Go
namespace Gv
variable {P : Program}
/-- An append to a slice that has no room: what it makes is new. -/
theorem AppSt.grow {t t2 ty e : TypeId} {inf : TypeInfo} {a : Option Addr} {n m cp : Nat} {y : Value} {h : View} {O : Hp} {l ys : List Value} {K : Value → View → Hp → Prop} (hr : Rd h O a l) (hl : l.length = n * inf.size) (hg : cp < n + m)
    (hs : Srcs P h O inf.size t2 y m ys) (z : Value) (hz : inf.zero = some z) (hzl : (cellsL z).length = inf.size) (hfit : (n + m) * inf.bytes ≤ 140737488355328) (h63 : n + m ≤ 9223372036854775807)
    (hk : ∀ b' : Buf, b'.ok inf.size (l ++ ys) (n + m) → K (.slice b'.a (n + m) b'.cap) h (b'.hp e (l ++ ys) ++ O)) : AppSt P t t2 ty e inf (.slice a n cp) y h O K := by
  refine .mk fun hu hi _ w hv => ?_
  have hsrc := hs.src w hv
  have hlys : (l ++ ys).length = (n + m) * inf.size := by rw [List.length_append, hl, hsrc.newsLen, Nat.add_mul]
  have hold : (Builtin.firstCells inf.size n (.slice a n cp)).run P w.drew = .ok l.toArray w.drew := by
    rcases hr.cells hv.drew with h0 | ⟨ha, hc⟩
    · cases ha : a with
      | none => rw [run_firstCells_none, h0]
      | some a0 => exact run_firstCells_some _ _ _ _ _ _ l hl (by rw [h0]; simp)
    · rw [ha]; exact run_firstCells_some _ _ _ _ _ _ l hl hc
  have hrun := run_append_grow_src (P := P) w t t2 ty e inf z hu hi hz a n cp l hold y m ys hsrc hg (by omega) (growslice_fits hg hfit)
  have hge := grownCap_ge w (n + m) cp e
  generalize hcap : grownCap w (n + m) cp e = cap at hrun hge
  have hzero : Builtin.zeroCells z.cells (cap - (n + m)) = ⟨rows (cap - (n + m)) (cellsL z)⟩ := by
    unfold Builtin.zeroCells
    rw [cells_arr]
    exact zeroRow (cellsL z) _ _ rfl
  have hobj : ((l ++ ys).toArray ++ Builtin.zeroCells z.cells (cap - (n + m)) : Array Value) = ⟨l ++ ys ++ rows (cap - (n + m)) (cellsL z)⟩ := by
    rw [hzero]; apply Array.ext'; simp
  rw [hobj] at hrun
  obtain ⟨st, f1, f2⟩ := Step.alloc (w' := w.drew.alloc (.cells ⟨l ++ ys ++ rows (cap - (n + m)) (cellsL z)⟩ e)) (obj := .cells ⟨l ++ ys ++ rows (cap - (n + m)) (cellsL z)⟩ e) hv rfl rfl rfl rfl
  let b' : Buf := ⟨some ⟨w.heap.size, 0, none⟩, cap, rows (cap - (n + m)) (cellsL z), (0, 0)⟩
  have hk' := hk b' ⟨hlys, .inr ⟨rfl, hge, by simp only [b', rows_length, hzl], .inl (Nat.le_refl _)⟩⟩
  exact ⟨_, _, h, _, hrun, st, hk'⟩
/-- What is owned may be shown to a callee that does not write it. -/
theorem GSpec.keep {f : FuncId} {args : List Value} {h : View} {O H : Hp} {R : Value → Hp → Prop}
    (sp : (H.map Prod.fst).Nodup → (∀ b o, (b, o) ∈ H → h b = none) → GSpec P f args (pub h H) O fun v _ O' => R v O')
    (hf : ∃ fn, P.funcs[f]? = some fn ∧ fn.body.isSome = true ∧ (fn.name == "runtime.NumGoroutine") = false) : GSpec P f args h (H ++ O) fun v _ O'' => ∃ O', O'' = H ++ O' ∧ R v O' := by
  refine ⟨hf, fun w hv => ?_⟩
  have hn := hv.nodup
  rw [List.map_append, List.nodup_append] at hn
  have ha : ∀ b o, (b, o) ∈ H → h b = none := fun b o m => hv.apart b o (List.mem_append_left _ m)
  obtain ⟨_, sp⟩ := sp hn.1 ha
  refine (sp w (hv.wk Wk.pub)).mono ?_
  rintro e w' ⟨v, h', O', rfl, st, hR⟩
  have hH : ∀ b o, (b, o) ∈ H → h' b = some o := fun b o m => st.mono b o (pub_of_mem hn.1 m (ha b o m))
  have hh : ∀ b o, h b = some o → h' b = some o := fun b o e => st.mono b o (pub_mono b o e)
  have hO' : ∀ b o, (b, o) ∈ O' → h b = none := fun b o m => by
    have := st.val.apart b o m
    cases e : h b with
    | none => rfl
    | some x => rw [hh b x e] at this; cases this
  refine ⟨v, h, H ++ O', rfl, ⟨st.os, st.tape, st.output, fun _ _ e => e, ⟨fun b o e => st.val.per b o (hh b o e), fun b o m => ?_, ?_, fun b o m => ?_⟩, st.size, fun b hb hne => st.kept b hb fun o m => hne o (List.mem_append_right _ m), fun b e => .inl e, fun b o m => ?_⟩, O', rfl, hR⟩
  · rcases List.mem_append.1 m with m | m
    · exact st.val.per b o (hH b o m)
    · exact st.val.own b o m
  · rw [List.map_append, List.nodup_append]
    refine ⟨hn.1, st.val.nodup, fun x hx y hy hxy => ?_⟩
    subst hxy
    obtain ⟨⟨x1, o1⟩, hx1, rfl⟩ := List.mem_map.1 hx
    obtain ⟨⟨y1, o2⟩, hy1, e⟩ := List.mem_map.1 hy
    simp only at e; subst e
    have h1 := hH _ _ hx1
    rw [st.val.apart _ _ hy1] at h1
    cases h1
  · rcases List.mem_append.1 m with m | m
    · exact ha b o m
    · exact hO' b o m
  · rcases List.mem_append.1 m with m | m
    · exact .inr ⟨o, List.mem_append_left _ m⟩
    · rcases st.freshO b o m with h1 | ⟨o', h1⟩
      · exact .inl h1
      · exact .inr ⟨o', List.mem_append_right _ h1⟩
theorem GSpec.perm {f : FuncId} {args : List Value} {h : View} {O : Hp} {R R' : Value → Hp → Prop} (sp : GSpec P f args h O fun v _ O' => R v O') (hm : ∀ v O', R v O' → ∃ O'', O'.Perm O'' ∧ R' v O'') : GSpec P f args h O fun v _ O' => R' v O' :=
  ⟨sp.1, fun w hv => (sp.2 w hv).mono (by
    rintro e w' ⟨v, h', O', rfl, st, hR⟩
    obtain ⟨O'', hp, hR'⟩ := hm v O' hR
    exact ⟨v, h', O'', rfl, st.postWk (Wk.perm hp), hR'⟩)⟩
theorem Lk.pub {h : View} {O : Hp} {b : Nat} {o : Obj} (hn : (O.map Prod.fst).Nodup) (ha : ∀ b o, (b, o) ∈ O → h b = none) (H : Lk h O b o) : Lk (Gv.pub h O) [] b o := by
  cases H with
  | own m => exact .per (pub_of_mem hn m (ha b o m))
  | per e => exact .per (pub_mono b o e)
theorem Rd.pub {h : View} {O : Hp} {a : Option Addr} {l : List Value} (hn : (O.map Prod.fst).Nodup) (ha : ∀ b o, (b, o) ∈ O → h b = none) (H : Rd h O a l) : Rd (Gv.pub h O) [] a l := by
  rcases H with h0 | ⟨h1, c, ty, fr, hb, hc⟩
  · exact .inl h0
  · exact .inr ⟨h1, c, ty, fr, hb.pub hn ha, hc⟩
theorem Rd.any {h : View} {O : Hp} {a : Option Addr} {l : List Value} (H : Rd h [] a l) : Rd h O a l := H.more (fun _ _ e => e) fun _ _ m => by cases m
end Gv
end Go
/- Regions whose order is open: one operation that makes may stand ahead of, between and behind calls that follow one another. -/
namespace Go
namespace Gv
variable {P : Program}
end Gv
end Go
/- Rules: one cell of a block that is owned, read and written. -/
namespace Go
namespace Gv
variable {P : Program}
theorem setRange_one (l : List Value) (n : Nat) (v : Value) : setRange l n [v] = l.set n v := by rw [setRange_cons, setRange_nil]
theorem StoreSt.cell {h : View} {O : Hp} {b off k : Nat} {vs l l' : List Value} {v : Value} {ty : TypeId} {f : List Value → Hp} {K : View → Hp → Prop} (u : Upd O b l ty (0, 0) f)
    (hv : vs = [v]) (ho : off = k) (hb : k < l.length) (h1 : v.oneCell' = true) (hl : l.set k v = l') (hk : K h (f l')) : StoreSt h O b off vs K := by
  subst hv ho hl
  exact .own u (by simp only [List.length_cons, List.length_nil]; omega) (.inl (Nat.le_refl _)) (by simp [h1]) (by rw [setRange_one]; exact hk)
theorem LoadSt.cell {h : View} {O : Hp} {b off k : Nat} {l : List Value} {v : Value} {ty : TypeId} {fr : Nat × Nat} {K : Value → Prop} (m : (b, Obj.cells ⟨l⟩ ty fr) ∈ O) (ho : off = k) (hb : k < l.length) (hv : l.getD k undef = v) (hk : K v) : LoadSt h O b off none K := by
  subst ho hv
  refine .own m (c := l.getD off undef) ?_ hk
  rw [List.getD_eq_getElem?_getD, List.getElem?_eq_getElem hb]; rfl
/-- A round of a loop that ends with what is owned in another order. -/
theorem RoundFix.perm {X : Type} {W : List Nat} {s : List Value} {live : X → List (Nat × Value)} {Ox : X → Hp} {F : X → Prop} {μ : X → Nat} {h1 : View} {x : X} {s' : List Value} {O' : Hp} (x' : X) (hm : μ x' < μ x) (hs : sameB 0 W (live x') s s') (hp : O'.Perm (Ox x')) (hF : F x') :
    RoundFix W s live Ox F μ h1 x s' h1 O' := .mk x' hm hs (Ox x') rfl (Wk.perm hp) hF
end Gv
end Go
/- Regions whose order is open: a tree of orders, told apart only where two operations do not commute. -/
namespace Go
namespace Gv
variable {P : Program}
/-- Orders of a region: one that may go first whatever comes; one that goes first in this branch; branches. -/
inductive Ord
  | nil
  | one (x : Nat) (t : Ord)
  | fst (x : Nat) (t : Ord)
  | fork (t u : Ord)
def Ord.heads : Ord → List Nat
  | .fst x _ => [x]
  | .fork t u => t.heads ++ u.heads
  | _ => []
def Ord.cut (z : Nat) : Ord → Ord
  | .nil => .nil
  | .one x t => match decide (x = z) with | true => t | false => .one x (t.cut z)
  | .fst _ t => t
  | .fork t u => match t.heads.any (Nat.beq z) with | true => t.cut z | false => u.cut z
def ordP (P : Program) (ops : Array Oper) (K : List Value → View → Hp → Prop) : Ord → List Value → View → Hp → Prop
  | .nil => K
  | .one x t => SOps P ops (ordP P ops K t) [x]
  | .fst x t => SOps P ops (ordP P ops K t) [x]
  | .fork t u => fun s h O => ordP P ops K t s h O ∧ ordP P ops K u s h O
/-- Every one of L is a head, or waits for another of L. -/
def Cover (ops : Array Oper) (H L : List Nat) : Prop := ∀ y ∈ L, y ∈ H ∨ ∃ z ∈ L, z ≠ y ∧ Blk ops z y
def OrdOk (P : Program) (ops : Array Oper) : Ord → List Nat → Bool → Prop
  | .nil, L, b => L = [] ∧ b = false
  | .one x t, L, b => b = false ∧ x ∈ L ∧ (∀ y ∈ L, y = x ∨ comm2 P ops x y = true ∨ Blk ops x y) ∧ OrdOk P ops t (L.erase x) false
  | .fst x t, L, b => x ∈ L ∧ (b = true ∨ Cover ops [x] L) ∧ OrdOk P ops t (L.erase x) false
  | .fork t u, L, b => (b = true ∨ Cover ops (t.heads ++ u.heads) L) ∧ OrdOk P ops t L true ∧ OrdOk P ops u L true
def Free (ops : Array Oper) (z : Nat) (L : List Nat) : Prop := ∀ w ∈ L, w ≠ z → ¬ Blk ops w z
theorem Free.erase {ops : Array Oper} {z x : Nat} {L : List Nat} (h : Free ops z L) : Free ops z (L.erase x) := fun w hw => h w (List.mem_of_mem_erase hw)
theorem Cover.free {ops : Array Oper} {H L : List Nat} {z : Nat} (h : Cover ops H L) (hz : z ∈ L) (hf : Free ops z L) : z ∈ H := by
  rcases h z hz with h1 | ⟨w, hw, hn, hb⟩
  · exact h1
  · exact absurd hb (hf w hw hn)
theorem ordP.front {ops : Array Oper} {K : List Value → View → Hp → Prop} (hsel : Region.noSelect ops = true) {z : Nat} : ∀ (t : Ord) (L : List Nat) (b : Bool) (s : List Value) (h : View) (O : Hp), (∃ w, Val h O w) → OrdOk P ops t L b → z ∈ L → Free ops z L → (b = true → z ∈ t.heads) →
    ordP P ops K t s h O → SOps P ops (ordP P ops K (t.cut z)) [z] s h O
  | .nil, L, b, s, h, O, _, hg, hz, _, _, _ => by rw [hg.1] at hz; cases hz
  | .one x t, L, b, s, h, O, ⟨w, hv⟩, ⟨_, hx, hc, hg⟩, hz, hf, _, hk => by
    unfold Ord.cut
    by_cases e : x = z
    · rw [decide_eq_true e]
      subst e
      exact hk
    · rw [decide_eq_false e]
      have hk2 : SOps P ops (ordP P ops K (t.cut z)) ([x] ++ z :: []) s h O := by
        obtain ⟨ox, hox, hk⟩ := hk
        refine ⟨ox, hox, hk.monoV hv fun s2 h2 O2 hv2 k2 => ?_⟩
        exact ordP.front hsel t (L.erase x) false s2 h2 O2 hv2 hg ((List.mem_erase_of_ne (Ne.symm e)).2 hz) hf.erase (fun e => by cases e) k2
      have hcz : ∀ a ∈ [x], comm2 P ops a z = true := fun a ha => by
        obtain rfl := List.mem_singleton.1 ha
        rcases hc z hz with h1 | h1 | h1
        · exact absurd h1.symm e
        · exact h1
        · exact absurd h1 (hf a hx e)
      obtain ⟨oz, hoz, hk3⟩ := SOps.front hsel [x] [] s h O ⟨w, hv⟩ hcz hk2
      exact ⟨oz, hoz, hk3⟩
  | .fst x t, L, b, s, h, O, _, ⟨hx, hb, hg⟩, hz, hf, hbz, hk => by
    have e : z = x := by
      rcases hb with hb | hb
      · exact List.mem_singleton.1 (hbz hb)
      · exact List.mem_singleton.1 (hb.free hz hf)
    subst e
    exact hk
  | .fork t u, L, b, s, h, O, hv, ⟨hb, hg1, hg2⟩, hz, hf, hbz, hk => by
    have hm : z ∈ t.heads ++ u.heads := by
      rcases hb with hb | hb
      · exact hbz hb
      · exact hb.free hz hf
    unfold Ord.cut
    cases e : t.heads.any (Nat.beq z) with
    | true =>
      have h1 : z ∈ t.heads := by
        obtain ⟨y, hy, he⟩ := List.any_eq_true.1 e
        rw [Nat.eq_of_beq_eq_true he]; exact hy
      exact ordP.front hsel t L true s h O hv hg1 hz hf (fun _ => h1) hk.1
    | false =>
      have h1 : z ∈ u.heads := by
        rcases List.mem_append.1 hm with h1 | h1
        · have : t.heads.any (Nat.beq z) = true := List.any_eq_true.2 ⟨z, h1, by simp⟩
          rw [this] at e; cases e
        · exact h1
      exact ordP.front hsel u L true s h O hv hg2 hz hf (fun _ => h1) hk.2
theorem OrdOk.cut {ops : Array Oper} {z : Nat} : ∀ (t : Ord) (L : List Nat) (b : Bool), OrdOk P ops t L b → z ∈ L → Free ops z L → (b = true → z ∈ t.heads) → OrdOk P ops (t.cut z) (L.erase z) false
  | .nil, L, b, hg, hz, _, _ => by rw [hg.1] at hz; cases hz
  | .one x t, L, b, ⟨_, hx, hc, hg⟩, hz, hf, _ => by
    unfold Ord.cut
    by_cases e : x = z
    · rw [decide_eq_true e]
      subst e
      exact hg
    · rw [decide_eq_false e]
      refine ⟨rfl, (List.mem_erase_of_ne e).2 hx, fun y hy => hc y (List.mem_of_mem_erase hy), ?_⟩
      rw [List.erase_comm]
      exact OrdOk.cut t (L.erase x) false hg ((List.mem_erase_of_ne (Ne.symm e)).2 hz) hf.erase fun e => by cases e
  | .fst x t, L, b, ⟨hx, hb, hg⟩, hz, hf, hbz => by
    have e : z = x := by
      rcases hb with hb | hb
      · exact List.mem_singleton.1 (hbz hb)
      · exact List.mem_singleton.1 (hb.free hz hf)
    subst e
    exact hg
  | .fork t u, L, b, ⟨hb, hg1, hg2⟩, hz, hf, hbz => by
    have hm : z ∈ t.heads ++ u.heads := by
      rcases hb with hb | hb
      · exact hbz hb
      · exact hb.free hz hf
    unfold Ord.cut
    cases e : t.heads.any (Nat.beq z) with
    | true =>
      have h1 : z ∈ t.heads := by
        obtain ⟨y, hy, he⟩ := List.any_eq_true.1 e
        rw [Nat.eq_of_beq_eq_true he]; exact hy
      exact OrdOk.cut t L true hg1 hz hf fun _ => h1
    | false =>
      have h1 : z ∈ u.heads := by
        rcases List.mem_append.1 hm with h1 | h1
        · have : t.heads.any (Nat.beq z) = true := List.any_eq_true.2 ⟨z, h1, by simp⟩
          rw [this] at e; cases e
        · exact h1
      exact OrdOk.cut u L true hg2 hz hf fun _ => h1
theorem OrdOk.done {ops : Array Oper} {K : List Value → View → Hp → Prop} : ∀ (t : Ord) (b : Bool) (s : List Value) (h : View) (O : Hp), OrdOk P ops t [] b → ordP P ops K t s h O → K s h O
  | .nil, _, _, _, _, _, hk => hk
  | .one x t, b, s, h, O, ⟨_, hx, _⟩, _ => by cases hx
  | .fst x t, b, s, h, O, ⟨hx, _⟩, _ => by cases hx
  | .fork t u, b, s, h, O, ⟨_, hg, _⟩, hk => OrdOk.done t true s h O hg hk.1
/-! ### the check -/
end Gv
end Go
