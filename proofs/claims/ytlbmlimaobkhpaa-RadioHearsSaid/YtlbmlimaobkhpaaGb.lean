/- The walk's logic: slices, buffers, loops, calls. -/
import Derived.Test.YtlbmlimaobkhpaaGa
import Derived.Orders
import Derived.Deep.AppendSrc
import Derived.DeepKeys4
import Derived.Maps.Keyed
set_option linter.unusedVariables false
set_option linter.unusedSimpArgs false
set_option linter.unusedSectionVars false
/- The operations that make memory, write, or call: the table is sound. -/
namespace Go
namespace Gv
variable {P : Program}

/-- What a run of an operation comes to. -/
def Out (P : Program) (r : Result Next) (R : Value → World → Prop) : Prop :=
  match r with
  | .ok (.value v) w' => R v w'
  | .ok .skip w' => R undef w'
  | .ok (.enter f args) w' => Calls P f args w' fun e w'' => ∃ v, e = .returned v ∧ R v w''
  | _ => False
theorem Out.mono {r : Result Next} {R R' : Value → World → Prop} (h : Out P r R) (hm : ∀ v w, R v w → R' v w) : Out P r R' := by
  unfold Out at *
  split <;> simp only at h
  · exact hm _ _ h
  · exact hm _ _ h
  · exact h.mono fun e w'' ⟨v, he, hr⟩ => ⟨v, he, hm _ _ hr⟩
theorem Out.some {r : Result Next} {R : Value → World → Prop} (h : Out P r R) : ∃ v w, R v w := by
  unfold Out at h
  split at h
  · exact ⟨_, _, h⟩
  · exact ⟨_, _, h⟩
  · obtain ⟨e, w', fr, ⟨v, he, hr⟩, _⟩ := h []
    exact ⟨v, w', hr⟩
  · exact h.elim
/-- What soundness of an operation says. -/
def Sound (P : Program) (o : Op) (ty : TypeId) (s : List Value) (h : View) (O : Hp) (K : Value → View → Hp → Prop) : Prop :=
  ∀ (a : Act) (w : World) (pos : String) (dst : Option Tmp) (af : Array Edge) (g : Option (Nat × Bool)), a.tmps = ⟨s⟩ → Val h O w →
    Out P ((execOp a.eval { dst, op := o, type := ty, pos, after := af, guard := g }).run P w) fun v w' => ∃ h' O', Step h O w h' O' w' ∧ K v h' O'

theorem Sound.wp {o : Oper} {s : List Value} {h : View} {O : Hp} {K : Value → View → Hp → Prop} (hs : Sound P o.op o.type s h O K) {a : Act} {w : World} {next : Act → World → Prop} {Q : Exit → Act → World → Prop}
    (ha : a.tmps = ⟨s⟩) (hv : Val h O w) (hn : ∀ v h' O' w', Step h O w h' O' w' → K v h' O' → next (a.put o.dst v) w') : o.wp P a w next Q := by
  have := hs a w o.pos o.dst o.after o.guard ha hv
  unfold Oper.wp
  have e : ({ dst := o.dst, op := o.op, type := o.type, pos := o.pos, after := o.after, guard := o.guard } : Oper) = o := rfl
  rw [e] at this
  generalize (execOp a.eval o).run P w = r at *
  unfold Out at this
  split at this
  · obtain ⟨h', O', st, k⟩ := this; rw [Oper.upon_value]; exact hn _ _ _ _ st k
  · obtain ⟨h', O', st, k⟩ := this; rw [Oper.upon_skip]; exact hn _ _ _ _ st k
  · rw [Oper.upon_enter]
    refine this.mono ?_
    rintro e w' ⟨v, rfl, h', O', st, k⟩
    exact hn _ _ _ _ st k
  · exact this.elim

theorem Sound.of_run {o : Op} {ty : TypeId} {s : List Value} {h : View} {O : Hp} {K : Value → View → Hp → Prop}
    (hr : ∀ (a : Act) (w : World) (pos : String) (dst : Option Tmp) (af : Array Edge) (g : Option (Nat × Bool)), a.tmps = ⟨s⟩ → Val h O w →
      ∃ v w' h' O', (execOp a.eval { dst, op := o, type := ty, pos, after := af, guard := g }).run P w = .ok (.value v) w' ∧ Step h O w h' O' w' ∧ K v h' O') : Sound P o ty s h O K := by
  intro a w pos dst af g ha hv
  obtain ⟨v, w', h', O', hrun, hst, hk⟩ := hr a w pos dst af g ha hv
  rw [hrun]
  exact ⟨h', O', hst, hk⟩

theorem Sound.of_skip {o : Op} {ty : TypeId} {s : List Value} {h : View} {O : Hp} {K : View → Hp → Prop}
    (hr : ∀ (a : Act) (w : World) (pos : String) (dst : Option Tmp) (af : Array Edge) (g : Option (Nat × Bool)), a.tmps = ⟨s⟩ → Val h O w →
      ∃ w' h' O', (execOp a.eval { dst, op := o, type := ty, pos, after := af, guard := g }).run P w = .ok .skip w' ∧ Step h O w h' O' w' ∧ K h' O') :
    Sound P o ty s h O (fun v h' O' => v = undef ∧ K h' O') := by
  intro a w pos dst af g ha hv
  obtain ⟨w', h', O', hrun, hst, hk⟩ := hr a w pos dst af g ha hv
  rw [hrun]
  exact ⟨h', O', hst, rfl, hk⟩

theorem Sound.mono {o : Op} {ty : TypeId} {s : List Value} {h : View} {O : Hp} {K K' : Value → View → Hp → Prop} (hs : Sound P o ty s h O K) (hm : ∀ v h O, K v h O → K' v h O) :
    Sound P o ty s h O K' :=
  fun a w pos dst af g ha hv => (hs a w pos dst af g ha hv).mono fun v w' ⟨h', O', st, k⟩ => ⟨h', O', st, hm _ _ _ k⟩
/-- Soundness tells what the step tells. -/
theorem Sound.more {o : Op} {ty : TypeId} {s : List Value} {h : View} {O : Hp} {K : Value → View → Hp → Prop} (hs : Sound P o ty s h O K) :
    Sound P o ty s h O fun v h' O' => (∀ b o, h b = some o → h' b = some o) ∧ (∃ w, Val h' O' w) ∧ K v h' O' :=
  fun a w pos dst af g ha hv => (hs a w pos dst af g ha hv).mono fun v w' ⟨h', O', st, k⟩ => ⟨h', O', st, st.mono, ⟨w', st.val⟩, k⟩

theorem lightK_sound {o : Op} {ty : TypeId} {s : List Value} {h : View} {O : Hp} {K : Value → View → Hp → Prop} (hk : lightK P o s h O fun v => K v h O) : Sound P o ty s h O K := by
  obtain ⟨u, hu, hr⟩ := lightK_run ty hk
  exact Sound.of_run fun a w pos dst af g ha hv => ⟨u, w, h, O, hr a w pos dst af g ha hv, Step.refl hv, hu⟩

theorem zeroRow (z : List Value) (n sz : Nat) (hs : z.length = sz) : (Array.range (n * sz)).map (fun i => (⟨z⟩ : Array Value)[i % (⟨z⟩ : Array Value).size]!) = ⟨rows n z⟩ := by
  subst hs
  apply Array.ext'
  apply List.ext_getElem?
  intro i
  simp only [Array.toList_map, Array.toList_range, List.getElem?_map]
  by_cases hi : i < n * z.length
  · rw [rows_get n z i hi, List.getElem?_range hi]
    have hz : 0 < z.length := by rcases Nat.eq_zero_or_pos z.length with h | h
                                 · simp [h] at hi
                                 · exact h
    have hm := Nat.mod_lt i hz
    simp only [Option.map_some, List.size_toArray]
    rw [List.getElem?_eq_getElem hm]
    simp [getElem!_pos, hm]
  · rw [List.getElem?_eq_none (by simp; omega), List.getElem?_eq_none (by rw [rows_length]; omega)]; rfl

theorem wrap_id {n : Int} (h0 : -9223372036854775808 ≤ n) (h1 : n ≤ 9223372036854775807) : IntKind.i64.wrap n = n := by
  have e : IntKind.i64.wrap n = if 9223372036854775808 ≤ n % 18446744073709551616 then n % 18446744073709551616 - 18446744073709551616 else n % 18446744073709551616 := by
    have : IntKind.i64.wrap n = if decide (9223372036854775808 ≤ n % 18446744073709551616) then n % 18446744073709551616 - 18446744073709551616 else n % 18446744073709551616 := rfl
    rw [this]; simp
  rw [e]; split <;> omega

theorem freeze_val {w : World} {b n : Nat} {c : Array Value} {ty : TypeId} (hg : w.heap[b]? = some (.cells c ty (0, 0))) :
    w.freeze ⟨b, n, none⟩ 1 = putBlock w b (.cells c ty (n, n + 1)) := by
  unfold World.freeze putBlock
  simp only [Nat.one_ne_zero, if_false]
  congr 1
  apply Array.ext_getElem?
  intro k
  rw [Array.getElem?_modify, Array.getElem?_setIfInBounds]
  by_cases hk : b = k
  · subst hk
    rw [if_pos rfl, if_pos rfl, hg, if_pos (Array.getElem?_eq_some_iff.1 hg).1]; simp
  · rw [if_neg hk, if_neg hk]

theorem BytesSt.run {e : TypeId} {s : ByteArray} {h : View} {O : Hp} {K : Value → View → Hp → Prop} (hs : BytesSt e s.data.toList h O K) (w : World) (hv : Val h O w) :
    ∃ v w' h' O', (Conv.stringToBytes e s).run P w = .ok v w' ∧ Step h O w h' O' w' ∧ K v h' O' := by
  cases hs with | mk hk =>
    have hsz : s.size = s.data.toList.length := by cases s; rfl
    generalize hcap : (Question.appendCap s.size 0 e).cut (w.tape w.drawn (.appendCap s.size 0 e)) = cap
    have hle : s.size ≤ cap := by rw [← hcap]; simp only [Question.cut]; omega
    let w1 : World := { w with drawn := w.drawn + 1 }
    let cells : Array Value := (s.data.map fun b => .int .u8 b.toNat) ++ Array.replicate (cap - s.size) (.int .u8 0)
    let w2 : World := { w1 with heap := w1.heap.push (.cells cells e) }
    have hcells : cells = ⟨s.data.toList.map byteV ++ List.replicate (cap - s.size) (.int .u8 0)⟩ := by
      apply Array.ext'; simp [cells, byteV]
    have hlen : cells.size = cap := by
      have h1 : s.data.size = s.size := rfl
      simp only [cells, Array.size_append, Array.size_map, Array.size_replicate, h1]; omega
    have hw2 : w2.heap[w.heap.size]? = some (.cells cells e (0, 0)) := by simp [w2, w1]
    obtain ⟨st, f1, f2⟩ := Step.alloc (w' := w2) (obj := .cells cells e) hv rfl rfl rfl rfl
    have hst2 := Step.put (O1 := []) (o' := .cells cells e (cap, cap + 1)) st.val
    refine ⟨.slice (some ⟨w.heap.size, 0, none⟩) s.size cap, putBlock w2 w.heap.size (.cells cells e (cap, cap + 1)), h, (w.heap.size, .cells cells e (cap, cap + 1)) :: O, ?_, st.trans hst2, ?_⟩
    · have hfz : (freeze ⟨w.heap.size, cap, none⟩ 1).run P w2 = .ok () (putBlock w2 w.heap.size (.cells cells e (cap, cap + 1))) := by
        rw [run_freeze, freeze_val hw2]
      have hshape : w2.shape? w.heap.size = some (e, cap) := by simp only [World.shape?, hw2, hlen]
      have hmark : (markStringish ⟨w.heap.size, 0, none⟩).run P w2 = .ok () (putBlock w2 w.heap.size (.cells cells e (cap, cap + 1))) := by
        simp only [markStringish, Sem.run_bind, run_shape, hshape, Result.andThen_ok]
        exact hfz
      simp only [Conv.stringToBytes, Sem.run_bind, run_choose, Question.forced, Bool.false_eq_true, if_false, Result.andThen_ok, hcap, newRow, run_newObj, Sem.run_pure]
      have : ({ w with heap := w.heap.push (.cells cells e), drawn := w.drawn + 1 } : World) = w2 := rfl
      simp only [cells] at this hmark ⊢
      rw [this, hmark]; rfl
    · rw [hcells, hsz]
      exact hk _ _ (cap - s.size) f1 f2 (by omega)

theorem good_call {f : FuncId} {fn : Func} (hf : P.funcs[f]? = some fn) (hb : fn.body.isSome = true) (hn : (fn.name == "runtime.NumGoroutine") = false) (args : Array Value) (w : World) :
    (callFunc f args).run P w = .ok (.enter f args) w := by
  have h1 : ¬ fn.name = "runtime.NumGoroutine" := by simpa using hn
  have h2 : ¬ fn.body = none := by intro h; simp [h] at hb
  simp [callFunc, hf, h1, h2]

theorem CallSt.sound {f : FuncId} {args : List Value} {h : View} {O : Hp} {K : Value → View → Hp → Prop} (hc : CallSt P f args h O K) (w : World) (hv : Val h O w) :
    Out P ((callFunc f ⟨args⟩).run P w) fun v w' => ∃ h' O', Step h O w h' O' w' ∧ K v h' O' := by
  induction hc with
  | know hk ih => exact ih ⟨w, hv⟩
  | part Of Or wk R sp hk =>
    obtain ⟨⟨fn, hf, hb, hnm⟩, sp⟩ := sp
    rw [good_call hf hb hnm]
    have hv1 := hv.wk wk
    refine (sp w (hv1.wk (Wk.drop (List.sublist_append_left _ _)))).mono ?_
    rintro e w' ⟨v, h', O', rfl, hst, hR⟩
    have hst2 := (hst.forgetV).frame hv1
    obtain ⟨O2, wk2, hk⟩ := hk v O' hR
    exact ⟨v, rfl, h, O2, (hst2.postWk wk2).wk wk, hk⟩
  | mk h1 Of Or wk R sp hk =>
    obtain ⟨⟨fn, hf, hb, hnm⟩, sp⟩ := sp
    rw [good_call hf hb hnm]
    have hv1 := hv.wk wk
    refine (sp w (hv1.wk (Wk.drop (List.sublist_append_left _ _)))).mono ?_
    rintro e w' ⟨v, h', O', rfl, hst, hR⟩
    have hst2 := hst.frame hv1
    obtain ⟨h2, O2, wk2, hk⟩ := hk v h' O' hst.mono (fun b o hm => hst2.val.apart b o (List.mem_append_right _ hm)) hR
    exact ⟨v, rfl, h2, O2, (hst2.postWk wk2).wk wk, hk⟩
  | drop R sp hk =>
    obtain ⟨⟨fn, hf, hb, hnm⟩, sp⟩ := sp
    rw [good_call hf hb hnm]
    refine (sp w (hv.wk (Wk.drop (List.nil_sublist _)))).mono ?_
    rintro e w' ⟨v, h', O', rfl, hst, hR⟩
    exact ⟨v, rfl, h, O, hst.forget hv, hk v hR⟩

theorem cellsOf_run {t : TypeId} {inf : TypeInfo} {z : Value} (hi : P.info? t = some inf) (hz : inf.zero = some z) (w : World) : (zeroValue t).run P w = .ok z w := by
  simp [zeroValue, typeInfo, hi, hz]

theorem zeroCellsOf_some {inf : TypeInfo} {z : List Value} (h : zeroCellsOf inf = some z) : ∃ v, inf.zero = some v ∧ cellsL v = z := by
  unfold zeroCellsOf at h
  split at h
  · rename_i v hv; exact ⟨v, hv, by simpa using h⟩
  · simp at h

theorem cells_arr (v : Value) : v.cells = ⟨cellsL v⟩ := by apply Array.ext'; rw [cellsL_eq]

theorem AllocSt.newRow {h : View} {O : Hp} {cs : List Value} {t : TypeId} {K : Nat → View → Hp → Prop} (hs : AllocSt h O (.cells ⟨cs⟩ t) K) (w : World) (hv : Val h O w) :
    ∃ w' h' O', (newRow t ⟨cs⟩).run P w = .ok ⟨w.heap.size, 0, none⟩ w' ∧ Step h O w h' O' w' ∧ K w.heap.size h' O' := by
  obtain ⟨h', O', hst, hk⟩ := hs.run (w' := { w with heap := w.heap.push (.cells ⟨cs⟩ t) }) hv rfl rfl rfl rfl
  exact ⟨_, h', O', by simp [Go.newRow], hst, hk⟩

theorem MakeSt.run {t : TypeId} {e : TypeId} {inf : TypeInfo} {j k : IntKind} {n c : Int} {h : View} {O : Hp} {K : Value → View → Hp → Prop} (hs : MakeSt inf e n c h O K)
    (hu : P.underlying t = some (.slice e)) (hi : P.info? e = some inf) (w : World) (hv : Val h O w) :
    ∃ v w' h' O', (Instr.makeSlice t (.int j n) (.int k c)).run P w = .ok v w' ∧ Step h O w h' O' w' ∧ K v h' O' := by
  cases hs with | mk h0 h1 h2 h3 z hz hs hk =>
    obtain ⟨w', h', O', hrun, hst, hk⟩ := hk.newRow (P := P) w hv
    obtain ⟨v, hz1, hz2⟩ := zeroCellsOf_some hz
    refine ⟨_, w', h', O', ?_, hst, hk⟩
    have e1 : IntKind.i64.wrap n = n := wrap_id (by omega) (by omega)
    have e2 : IntKind.i64.wrap c = c := wrap_id (by omega) (by omega)
    have c1 : ¬ c < 0 := by omega
    have c2 : ¬ ((inf.bytes : Int) * c > 2 ^ 48) := by
      have : (2 : Int) ^ 48 = 281474976710656 := by decide
      rw [this]; omega
    have c3 : ¬ n < 0 := by omega
    have c4 : ¬ n > c := by omega
    have hrow := zeroRow z c.toNat inf.size hs
    have hs' : (sizeOf e).run P w = .ok inf.size w := by simp [sizeOf, typeInfo, hi]
    have ht' : (typeInfo e).run P w = .ok inf w := by simp [typeInfo, hi]
    simp only [Instr.makeSlice, Sem.run_bind, run_underlying hu, Result.andThen_ok, asInt, asIntOf, Sem.run_pure, ht', e1, e2, c1, c2, c3, c4, decide_false, Bool.or_false, Bool.false_eq_true, if_false, run_askRoom, hs']
    by_cases hz0 : c.toNat * inf.size = 0
    · rw [if_pos hz0]
      simp only [hz0]
      have : rows c.toNat z = [] := List.eq_nil_of_length_eq_zero (by rw [rows_length, hs, hz0])
      rw [this] at hrun
      have e3 : (Array.map (fun x => (#[] : Array Value)[x % (#[] : Array Value).size]!) (Array.range 0)) = ⟨[]⟩ := by simp
      simp only [pure_bind]
      rw [e3, Sem.run_bind, hrun]; rfl
    · rw [if_neg hz0]
      simp only [Sem.run_bind, cellsOf_run hi hz1, Result.andThen_ok, Sem.run_pure]
      rw [cells_arr, hz2, hrow, hrun]; rfl

theorem CopySt.run {t : TypeId} {ts : List TypeId} {ty e : TypeId} {inf : TypeInfo} {d s : Value} {h : View} {O : Hp} {K : Value → View → Hp → Prop} (hs : CopySt P e inf.size d s h O K)
    (hu : P.underlying t = some (.slice e)) (hi : P.info? e = some inf) (w : World) (hv : Val h O w) :
    ∃ v w' h' O', (Builtin.copy_ ⟨t :: ts⟩ ty ⟨[d, s]⟩).run P w = .ok v w' ∧ Step h O w h' O' w' ∧ K v h' O' := by
  have hs' : (sizeOf e).run P w = .ok inf.size w := by simp [sizeOf, typeInfo, hi]
  cases hs with
  | mk n dlen cap b o cells hd m hm hn hr hk =>
    obtain ⟨w', h', O', hrun, hst, hk⟩ := hk.run (P := P) w hv
    refine ⟨_, w', h', O', ?_, hst, hk⟩
    have h1 := hr w hv
    subst hd hn
    simp [Builtin.copy_, run_underlying hu, hm, hs', h1, hrun, goInt]
  | none dlen cap hd m hm h0 cells hr hk =>
    refine ⟨_, w, h, O, ?_, Step.refl hv, hk⟩
    have h1 := hr w hv
    subst hd
    simp [Builtin.copy_, run_underlying hu, hm, hs', h0, h1, goInt]

theorem ClearSt.run {t : TypeId} {ts : List TypeId} {ty e : TypeId} {inf : TypeInfo} {d : Value} {vs : List Value} {h : View} {O : Hp} {K : View → Hp → Prop} (hs : ClearSt P inf d h O K)
    (hu : P.underlying t = Option.some (TypeDesc.slice e)) (hi : P.info? e = Option.some inf) (w : World) (hv : Val h O w) :
    ∃ w' h' O', (Builtin.clear_ ⟨t :: ts⟩ ty ⟨d :: vs⟩).run P w = .ok (.tuple #[]) w' ∧ Step h O w h' O' w' ∧ K h' O' := by
  cases hs with
  | none a cap hd hk =>
    refine ⟨w, h, O, ?_, Step.refl hv, hk⟩
    subst hd
    cases a <;> simp [Builtin.clear_, run_underlying hu]
  | some b o n cap z hd hz hk =>
    obtain ⟨v, hz1, hz2⟩ := zeroCellsOf_some hz
    obtain ⟨w', h', O', hrun, hst, hk⟩ := hk.run (P := P) w hv
    refine ⟨w', h', O', ?_, hst, hk⟩
    subst hd
    have e1 : Builtin.zeroCells v.cells n = ⟨rows n z⟩ := by
      unfold Builtin.zeroCells
      rw [cells_arr, hz2]
      exact zeroRow z n z.length rfl
    cases n with
    | zero =>
      have : rows 0 z = [] := rfl
      rw [this] at hrun
      have h2 : w' = w := by simpa [storeCells] using hrun.symm
      subst h2
      simp [Builtin.clear_, run_underlying hu]
    | succ n =>
      simp [Builtin.clear_, run_underlying hu, cellsOf_run hi hz1, e1, hrun]

theorem buildSlice_run {t e : TypeId} {inf : TypeInfo} {len : Nat} {s : List Value} {parts : Array (Nat × Operand)} {z : List Value} {h : View} {O : Hp} {K : Value → View → Hp → Prop}
    (hu : P.underlying t = some (.slice e)) (hi : P.info? e = some inf) (hz : zeroCellsOf inf = some z) (hl : len * inf.size ≤ 16777216) (hs : z.length = inf.size)
    (hf : fillK s (fun i => some (i * inf.size, inf.size)) (rows len z) parts.toList fun cs => AllocSt h O (.cells ⟨cs⟩ e) fun b h' O' => K (.slice (some ⟨b, 0, none⟩) len len) h' O')
    (w : World) (hv : Val h O w) :
    ∃ v w' h' O', (Instr.buildSlice t len (parts.map fun (x : Nat × Operand) => (x.1, evS s x.2))).run P w = .ok v w' ∧ Step h O w h' O' w' ∧ K v h' O' := by
  obtain ⟨r, hr, ha⟩ := fillK_run hf
  obtain ⟨w', h', O', hrun, hst, hk⟩ := ha.newRow (P := P) w hv
  obtain ⟨v, hz1, hz2⟩ := zeroCellsOf_some hz
  refine ⟨_, w', h', O', ?_, hst, hk⟩
  have hs' : (sizeOf e).run P w = .ok inf.size w := by simp [sizeOf, typeInfo, hi]
  have c1 : ¬ (len * inf.size > 2 ^ 24) := by omega
  have hrow := zeroRow z len inf.size hs
  simp only [Instr.buildSlice, Sem.run_bind, run_underlying hu, Result.andThen_ok, hs', c1, if_false]
  by_cases hz0 : len * inf.size = 0
  · rw [if_pos hz0]
    have : rows len z = [] := List.eq_nil_of_length_eq_zero (by rw [rows_length, hs, hz0])
    rw [this] at hr
    have e3 : (Array.map (fun x => (#[] : Array Value)[x % (#[] : Array Value).size]!) (Array.range 0)) = ⟨[]⟩ := by simp
    simp only [hz0, parts_map, pure_bind]
    rw [e3, hr]
    simp only [Sem.run_bind, hrun, Result.andThen_ok, Sem.run_pure]
  · rw [if_neg hz0]
    simp only [Sem.run_bind, cellsOf_run hi hz1, Result.andThen_ok, Sem.run_pure, parts_map]
    rw [cells_arr, hz2, hrow, hr]
    simp only [Sem.run_bind, hrun, Result.andThen_ok, Sem.run_pure]

theorem undef_of {o : Op} {ty : TypeId} {s : List Value} {h : View} {O : Hp} {K : Value → View → Hp → Prop}
    (hs : Sound P o ty s h O (fun v h' O' => v = undef ∧ K undef h' O')) : Sound P o ty s h O K :=
  hs.mono fun v h O e => by obtain ⟨rfl, e⟩ := e; exact e

theorem heavyK_sound {o : Op} {ty : TypeId} {s : List Value} {h : View} {O : Hp} {K : Value → View → Hp → Prop} (hk : heavyK P o ty s h O K) : Sound P o ty s h O K := by
  unfold heavyK at hk
  split at hk
  · -- alloc
    split at hk
    · rename_i i hi
      split at hk
      · rename_i z hz
        refine Sound.of_run fun a w pos dst af g ha hv => ?_
        obtain ⟨w', h', O', hrun, hst, hk⟩ := hk.newRow (P := P) w hv
        refine ⟨_, w', h', O', ?_, hst, hk⟩
        simp [execOp, Instr.alloc, cellsOf_run hi hz, newVar, cells_arr, hrun]
      · exact hk.elim
    · exact hk.elim
  · -- box
    rw [evK_eq] at hk
    refine Sound.of_run fun a w pos dst af g ha hv => ?_
    obtain ⟨w', h', O', hrun, hst, hk⟩ := hk.newRow (P := P) w hv
    refine ⟨_, w', h', O', ?_, hst, hk⟩
    simp [execOp, Instr.box, eval_eq ha, newVar, cells_arr, hrun]
  · -- buildSlice
    split at hk
    · rename_i e hu
      split at hk
      · rename_i inf hi
        split at hk
        · rename_i z hz hl
          split at hk
          · rename_i hs
            refine Sound.of_run fun a w pos dst af g ha hv => ?_
            obtain ⟨v, w', h', O', hrun, hst, hk⟩ := buildSlice_run hu hi hz (Nat.le_of_ble_eq_true hl) (Nat.eq_of_beq_eq_true hs) hk w hv
            refine ⟨v, w', h', O', ?_, hst, hk⟩
            have e : a.eval = evS s := funext (eval_eq ha)
            simp [execOp, e, hrun]
          · exact hk.elim
        · exact hk.elim
      · exact hk.elim
    · exact hk.elim
  · -- makeSlice
    split at hk
    · rename_i e hu
      split at hk
      · rename_i inf hi
        simp only [evK_eq] at hk
        split at hk
        · rename_i k1 n1 k2 n2 e1 e2
          refine Sound.of_run fun a w pos dst af g ha hv => ?_
          obtain ⟨v, w', h', O', hrun, hst, hk⟩ := hk.run (j := k1) (k := k2) hu hi w hv
          refine ⟨v, w', h', O', ?_, hst, hk⟩
          simp [execOp, eval_eq ha, e1, e2, hrun]
        · exact hk.elim
      · exact hk.elim
    · exact hk.elim
  · -- makeMap
    refine Sound.of_run fun a w pos dst af g ha hv => ?_
    obtain ⟨h', O', hst, hk⟩ := hk.run (w' := { w with heap := w.heap.push (.map #[] 0) }) hv rfl rfl rfl rfl
    exact ⟨_, _, h', O', by simp [execOp, Instr.makeMap], hst, hk⟩
  · -- store
    simp only [evK_eq] at hk
    split at hk
    · rename_i b off ea
      split at hk
      · rename_i inf hi
        split at hk
        · rename_i hs
          refine undef_of (Sound.of_skip fun a w pos dst af g ha hv => ?_)
          obtain ⟨w', h', O', hrun, hst, hk⟩ := hk.run (P := P) w hv
          refine ⟨w', h', O', ?_, hst, hk⟩
          have hsz := Nat.eq_of_beq_eq_true hs
          have hsz' : ∀ x, (evS s x).cells.size = (cellsL (evS s x)).length := fun x => by rw [cells_arr]; rfl
          simp [execOp, eval_eq ha, ea, Instr.storeAt, Instr.sureAddr, storeVar, sizeOf, typeInfo, hi, hsz', hsz, cellsL_eq, hrun]
        · exact hk.elim
      · exact hk.elim
    · exact hk.elim
  · -- convert
    split at hk
    · rename_i e hd
      split at hk
      · rename_i hs he
        rw [evK_eq] at hk
        split at hk
        · rename_i b eb
          refine Sound.of_run fun a w pos dst af g ha hv => ?_
          obtain ⟨v, w', h', O', hrun, hst, hk⟩ := hk.run (P := P) w hv
          refine ⟨v, w', h', O', ?_, hst, hk⟩
          simp [execOp, eval_eq ha, eb, convert, run_underlying hd, run_underlying hs, run_underlying he, hrun]
        · exact hk.elim
      · exact hk.elim
    · exact hk.elim
  · simp only [evK_eq] at hk
    cases hk with | mk hk =>
      refine undef_of (Sound.of_skip fun a w pos dst af g ha hv => ?_)
      obtain ⟨w', h', O', hrun, hst, hk⟩ := hk w hv
      exact ⟨w', h', O', by simp [execOp, eval_eq ha, hrun], hst, hk⟩
  · simp only [evK_eq] at hk
    cases hk with | mk hk =>
      refine undef_of (Sound.of_skip fun a w pos dst af g ha hv => ?_)
      obtain ⟨w', h', O', hrun, hst, hk⟩ := hk w hv
      exact ⟨w', h', O', by simp [execOp, eval_eq ha, hrun], hst, hk⟩
  · simp only [evK_eq] at hk
    cases hk with | mk hk =>
      refine Sound.of_run fun a w pos dst af g ha hv => ?_
      obtain ⟨v, w', h', O', hrun, hst, hk⟩ := hk w hv
      exact ⟨v, w', h', O', by simp [execOp, eval_eq ha, hrun], hst, hk⟩
  · simp only [evK_eq] at hk
    cases hk with | mk hk =>
      refine Sound.of_run fun a w pos dst af g ha hv => ?_
      obtain ⟨v, w', h', O', hrun, hst, hk⟩ := hk w hv
      exact ⟨v, w', h', O', by simp [execOp, eval_eq ha, hrun], hst, hk⟩
  · simp only [evK_eq] at hk
    cases hk with | mk hk =>
      refine Sound.of_run fun a w pos dst af g ha hv => ?_
      obtain ⟨v, w', h', O', hrun, hst, hk⟩ := hk w hv
      exact ⟨v, w', h', O', by simp [execOp, eval_eq ha, hrun], hst, hk⟩
  · -- call
    rw [evK_eq] at hk
    split at hk
    · rename_i fid first cap ef
      simp only [evsK_eq, appK_eq] at hk
      intro a w pos dst af g ha hv
      have e1 : ∀ (xs : Array Operand), first ++ xs.map a.eval ++ cap = ⟨first.toList ++ (xs.toList.map (evS s) ++ cap.toList)⟩ := by
        intro xs; rw [map_eval ha]; apply Array.ext'; simp
      have := hk.sound w hv
      simp only [execOp, resolve, eval_eq ha, ef, Deferred.ofValue, invoke, pure_bind, e1]
      exact this
    · exact hk.elim
  · -- append
    split at hk
    · rename_i t t2 x y et ea
      split at hk
      · rename_i e hu
        split at hk
        · rename_i inf e2 hi h2
          simp only [evK_eq] at hk
          cases hk with | mk hk =>
            refine Sound.of_run fun a w pos dst af g ha hv => ?_
            obtain ⟨v, w', h', O', hrun, hst, hk⟩ := hk hu hi ⟨_, h2, by simp⟩ w hv
            refine ⟨v, w', h', O', ?_, hst, hk⟩
            have e1 := Array.ext' (xs := _) (ys := #[x, y]) ea
            have e3 := Array.ext' (xs := _) (ys := #[t, t2]) et
            simp [execOp, resolve, e1, e3, invoke, builtin, eval_eq ha, hrun]
        · rename_i inf hi h2
          simp only [evK_eq] at hk
          cases hk with | mk hk =>
            refine Sound.of_run fun a w pos dst af g ha hv => ?_
            obtain ⟨v, w', h', O', hrun, hst, hk⟩ := hk hu hi ⟨_, h2, by simp⟩ w hv
            refine ⟨v, w', h', O', ?_, hst, hk⟩
            have e1 := Array.ext' (xs := _) (ys := #[x, y]) ea
            have e3 := Array.ext' (xs := _) (ys := #[t, t2]) et
            simp [execOp, resolve, e1, e3, invoke, builtin, eval_eq ha, hrun]
        · simp only [evK_eq] at hk
          cases hk with | mk hk =>
            refine Sound.of_run fun a w pos dst af g ha hv => ?_
            obtain ⟨v, w', h', O', hrun, hst, hk⟩ := hk w hv
            refine ⟨v, w', h', O', ?_, hst, hk⟩
            have e1 := Array.ext' (xs := _) (ys := #[x, y]) ea
            have e3 := Array.ext' (xs := _) (ys := #[t, t2]) et
            simp [execOp, resolve, e1, e3, invoke, builtin, eval_eq ha, hrun]
        · exact hk.elim
      · exact hk.elim
    · exact hk.elim
  · -- copy
    split at hk
    · rename_i t ts x y et ea
      split at hk
      · rename_i e hu
        split at hk
        · rename_i inf hi
          simp only [evK_eq] at hk
          refine Sound.of_run fun a w pos dst af g ha hv => ?_
          obtain ⟨v, w', h', O', hrun, hst, hk⟩ := hk.run (ts := ts) (ty := ty) hu hi w hv
          refine ⟨v, w', h', O', ?_, hst, hk⟩
          have e1 := Array.ext' (xs := _) (ys := #[x, y]) ea
          have e3 := Array.ext' (xs := _) (ys := ⟨t :: ts⟩) et
          have e4 : (#[evS s x, evS s y] : Array Value) = ⟨[evS s x, evS s y]⟩ := rfl
          simp [execOp, resolve, e1, e3, invoke, builtin, eval_eq ha, e4, hrun]
        · exact hk.elim
      · exact hk.elim
    · exact hk.elim
  · -- clear
    split at hk
    · rename_i t ts x xs et ea
      split at hk
      · rename_i e hu
        split at hk
        · rename_i inf hi
          simp only [evK_eq] at hk
          refine Sound.of_run fun a w pos dst af g ha hv => ?_
          obtain ⟨w', h', O', hrun, hst, hk⟩ := hk.run (ts := ts) (ty := ty) (vs := xs.map (evS s)) hu hi w hv
          refine ⟨_, w', h', O', ?_, hst, hk⟩
          have e1 := Array.ext' (xs := _) (ys := ⟨x :: xs⟩) ea
          have e3 := Array.ext' (xs := _) (ys := ⟨t :: ts⟩) et
          simp [execOp, resolve, e1, e3, invoke, builtin, map_eval ha, hrun]
        · exact hk.elim
      · exact hk.elim
    · exact hk.elim
  · exact hk.elim

theorem opK_sound {o : Op} {ty : TypeId} {s : List Value} {h : View} {O : Hp} {K : Value → View → Hp → Prop} (hk : opK P o ty s h O K) : Sound P o ty s h O K := by
  unfold opK at hk
  split at hk
  · exact lightK_sound hk
  · exact heavyK_sound hk
end Gv
end Go
/- Statements, loops, functions. -/
namespace Go
namespace Gv
variable {P : Program}

def setK : List Value → Nat → Value → (List Value → Prop) → Prop
  | [], _, _, K => K []
  | _ :: l, 0, v, K => K (v :: l)
  | x :: l, n + 1, v, K => setK l n v (fun r => K (x :: r))
theorem setK_eq (l : List Value) (n : Nat) (v : Value) (K : List Value → Prop) : setK l n v K = K (l.set n v) := by
  induction l generalizing n K with
  | nil => rfl
  | cons x l ih => cases n with
    | zero => rfl
    | succ n => exact ih n _
def putK (s : List Value) (d : Option Tmp) (v : Value) (K : List Value → Prop) : Prop :=
  match d with
  | some d => setK s d v K
  | none => K s
def putS (s : List Value) (d : Option Tmp) (v : Value) : List Value :=
  match d with
  | some d => s.set d v
  | none => s
theorem putK_eq (s : List Value) (d : Option Tmp) (v : Value) (K : List Value → Prop) : putK s d v K = K (putS s d v) := by
  cases d with
  | none => rfl
  | some d => exact setK_eq s d v K
def guardK (all : List Oper) (s : List Value) (g : Option (Nat × Bool)) (yes no : Prop) : Prop :=
  match g with
  | none => yes
  | some (j, want) => match all[j]? with
    | some o => match o.dst with
      | some d => getK s d fun v => match v with
        | .bool t => OnBB t fun t' => match t', want with
          | true, true => yes
          | false, false => yes
          | _, _ => no
        | _ => no
      | none => no
    | none => no
/-- The same, with one continuation (so that it stands but once in what is to be shown). -/
def guardB (all : List Oper) (s : List Value) (g : Option (Nat × Bool)) (F : Bool → Prop) : Prop :=
  match g with
  | none => F true
  | some (j, want) => match all[j]? with
    | some o => match o.dst with
      | some d => getK s d fun v => match v with
        | .bool t => OnBB t fun t' => match t', want with
          | true, true => F true
          | false, false => F true
          | _, _ => F false
        | _ => F false
      | none => F false
    | none => F false
theorem guardB_eq {all : List Oper} {s : List Value} {g : Option (Nat × Bool)} {F : Bool → Prop} (h : guardB all s g F) : guardK all s g (F true) (F false) := h
def opB (P : Program) (o : Op) (ty : TypeId) (s : List Value) (h : View) (O : Hp) (b : Bool) (K : Value → View → Hp → Prop) : Prop :=
  match b with
  | true => opK P o ty s h O K
  | false => K undef h O
/-- The end of a region: a stop of its own (so that nothing behind it is unfolded while terms are compared). -/
inductive NextSt (p : Prop) : Prop
  | mk (h : p)
theorem NextSt.out {p : Prop} (h : NextSt p) : p := by cases h with | mk h => exact h
def opsK (P : Program) (all : List Oper) : List Oper → List Value → View → Hp → (List Value → View → Hp → Prop) → Prop
  | [], s, h, O, K => NextSt (K s h O)
  | o :: r, s, h, O, K => guardB all s o.guard fun b =>
      opB P o.op o.type s h O b fun v h' O' => putK s o.dst v fun s' => opsK P all r s' h' O' K

theorem yielded_eq {ops : Array Oper} {s : List Value} {j : Nat} : yielded ops ⟨s⟩ j =
    match ops.toList[j]? with
    | some o => match o.dst with
      | some d => match s[d]? with
        | some (.bool b) => some b
        | _ => none
      | none => none
    | none => none := by
  unfold yielded
  rw [Array.getElem?_toList]
  cases h : ops[j]? with
  | none => rfl
  | some o =>
    cases h2 : o.dst with
    | none => simp [h2]
    | some d => simp [h2]; cases h3 : s[d]? <;> rfl

theorem getS_get {s : List Value} {d : Nat} : (∃ v, s[d]? = some v ∧ getS s d = v) ∨ s[d]? = none ∧ getS s d = undef := by
  rw [getS_eq, List.getD_eq_getElem?_getD]
  cases h : s[d]? with
  | none => exact .inr ⟨rfl, rfl⟩
  | some v => exact .inl ⟨v, rfl, rfl⟩

theorem guardK_run {ops : Array Oper} {s : List Value} {o : Oper} {yes no : Prop} (h : guardK ops.toList s o.guard yes no) :
    (Region.wanted o (yielded ops ⟨s⟩) = true ∧ yes) ∨ (Region.wanted o (yielded ops ⟨s⟩) = false ∧ no) := by
  unfold guardK at h
  unfold Region.wanted
  split at h
  · rename_i hg; rw [hg]; exact .inl ⟨rfl, h⟩
  · rename_i j want hg
    rw [hg]
    simp only
    rw [yielded_eq]
    split at h
    · rename_i o' ho
      split at h
      · rename_i d hd
        rw [getK_eq] at h
        rcases getS_get (s := s) (d := d) with ⟨v, hv, he⟩ | ⟨hv, he⟩
        · rw [he] at h
          rw [hv]
          split at h
          · rename_i t
            have h := h.run
            cases t <;> cases want <;> simp at h ⊢ <;> exact h
          · rename_i hne
            refine .inr ⟨?_, h⟩
            cases v <;> first | rfl | exact absurd rfl (hne _)
        · rw [he] at h
          rw [hv]
          exact .inr ⟨rfl, h⟩
      · rename_i hd
        exact .inr ⟨rfl, h⟩
    · exact .inr ⟨rfl, h⟩

theorem put_tmps {a : Act} {s : List Value} (h : a.tmps = ⟨s⟩) (d : Option Tmp) (v : Value) : (a.put d v).tmps = ⟨putS s d v⟩ := by
  cases d with
  | none => exact h
  | some d => simp only [Act.put, putS, h]; simp
theorem put_defers (a : Act) (d : Option Tmp) (v : Value) : (a.put d v).defers = a.defers := by cases d <;> rfl

theorem opsK_sound {ops : Array Oper} {Q : Exit → Act → World → Prop} {K : List Value → View → Hp → Prop} : ∀ (l : List Oper) (s : List Value) (h : View) (O : Hp), opsK P ops.toList l s h O K →
    ∀ (a : Act) (w : World), a.tmps = ⟨s⟩ → a.defers = [] → Val h O w →
    (∀ s' h' O' a' w', a'.tmps = ⟨s'⟩ → a'.defers = [] → Step h O w h' O' w' → K s' h' O' → Q .normal a' w') → wpList P ops Q l a w
  | [], s, h, O, hk, a, w, ha, hd, hv, hq => hq s h O a w ha hd (Step.refl hv) (NextSt.out hk)
  | o :: r, s, h, O, hk, a, w, ha, hd, hv, hq => by
    unfold opsK at hk
    unfold wpList
    rw [ha]
    rcases guardK_run (guardB_eq hk) with ⟨hw, hk⟩ | ⟨hw, hk⟩
    · rw [hw, if_pos rfl]
      refine .inl ?_
      replace hk : opK P o.op o.type s h O fun v h' O' => putK s o.dst v fun s' => opsK P ops.toList r s' h' O' K := hk
      refine (opK_sound hk).wp ha hv ?_
      intro v h' O' w' hst hk
      rw [putK_eq] at hk
      exact opsK_sound r _ h' O' hk _ w' (put_tmps ha _ _) (by rw [put_defers]; exact hd) hst.val
        fun s2 h2 O2 a2 w2 e1 e2 st hk2 => hq s2 h2 O2 a2 w2 e1 e2 (hst.trans st) hk2
    · rw [hw]
      replace hk : putK s o.dst undef fun s' => opsK P ops.toList r s' h O K := hk
      rw [putK_eq] at hk
      simp only [Bool.false_eq_true, if_false]
      exact opsK_sound r _ h O hk _ w (put_tmps ha _ _) (by rw [put_defers]; exact hd) hv hq

/-- A region whose order is open. -/
inductive DrawSt (P : Program) (ops : Array Oper) (s : List Value) (h : View) (O : Hp) (K : List Value → View → Hp → Prop) : Prop
  | mk (hk : ∀ (id : Nat) (Q : Exit → Act → World → Prop) (a : Act) (w : World), a.tmps = ⟨s⟩ → a.defers = [] → Val h O w →
      (∀ s' h' O' a' w', a'.tmps = ⟨s'⟩ → a'.defers = [] → Step h O w h' O' w' → K s' h' O' → Q .normal a' w') → (Code.region id ops true).wp P Q a w)
abbrev Body := List Value → View → Hp → (Exit → List Value → View → Hp → Prop) → Prop
inductive LoopSt (b : Code) (body : Body) (s : List Value) (h : View) (O : Hp) (K : Exit → List Value → View → Hp → Prop) : Prop
  | mk (X : Type) (I : X → List Value → View → Hp → Prop) (μ : X → Nat) (x0 : X) (h1 : View) (O1 : Hp) (wk : Wk h O h1 O1) (h0 : I x0 s h1 O1)
      (round : ∀ x s h O, I x s h O → body s h O fun e s' h' O' => match e with
        | .normal => (∃ w, Val h' O' w) → ∃ x' h2 O2, Wk h' O' h2 O2 ∧ μ x' < μ x ∧ I x' s' h2 O2
        | e => K e s' h' O')
  | know (hk : (∃ w, Val h O w) → LoopSt b body s h O K)
def codeK (P : Program) : Code → List Value → View → Hp → (Exit → List Value → View → Hp → Prop) → Prop
  | .skip, s, h, O, K => K .normal s h O
  | .label _, s, h, O, K => K .normal s h O
  | .region _ ops d, s, h, O, K => match d with
    | false => opsK P ops.toList ops.toList s h O (K .normal)
    | true => DrawSt P ops s h O (K .normal)
  | .seq a b, s, h, O, K => codeK P a s h O fun e s' h' O' => match e with
    | .normal => codeK P b s' h' O' K
    | e => K e s' h' O'
  | .cond c a b, s, h, O, K => evK s c fun v => OnB v fun t => match t with
    | true => codeK P a s h O K
    | false => codeK P b s h O K
  | .block id a, s, h, O, K => codeK P a s h O fun e s' h' O' => match e with
    | .exit i => match Nat.beq i id with
      | true => K .normal s' h' O'
      | false => K (.exit i) s' h' O'
    | e => K e s' h' O'
  | .loop a, s, h, O, K => LoopSt a (codeK P a) s h O K
  | .exit id, s, h, O, K => K (.exit id) s h O
  | .ret, s, h, O, K => K .ret s h O
  | _, _, _, _, _ => False

/-- What soundness of a statement says. -/
def CSound (P : Program) (c : Code) (s : List Value) (h : View) (O : Hp) (K : Exit → List Value → View → Hp → Prop) : Prop :=
  ∀ (Q : Exit → Act → World → Prop) (a : Act) (w : World), a.tmps = ⟨s⟩ → a.defers = [] → Val h O w →
    (∀ e s' h' O' a' w', a'.tmps = ⟨s'⟩ → a'.defers = [] → Step h O w h' O' w' → K e s' h' O' → Q e a' w') → c.wp P Q a w

theorem codeK_sound : ∀ (c : Code) (s : List Value) (h : View) (O : Hp) (K : Exit → List Value → View → Hp → Prop), codeK P c s h O K → CSound P c s h O K := by
  intro c
  induction c with
  | skip => exact fun s h O K hk Q a w ha hd hv hq => wp_skip (hq _ _ _ _ _ _ ha hd (Step.refl hv) hk)
  | label l => exact fun s h O K hk Q a w ha hd hv hq => wp_label (hq _ _ _ _ _ _ ha hd (Step.refl hv) hk)
  | region id ops d =>
    intro s h O K hk Q a w ha hd hv hq
    cases d with
    | false => exact wp_region_list (opsK_sound ops.toList s h O hk a w ha hd hv fun s' h' O' a' w' e1 e2 st hk => hq _ _ _ _ _ _ e1 e2 st hk)
    | true =>
      simp only [codeK] at hk
      cases hk with | mk hk => exact hk id Q a w ha hd hv fun s' h' O' a' w' e1 e2 st hk => hq _ _ _ _ _ _ e1 e2 st hk
  | seq x y ihx ihy =>
    intro s h O K hk Q a w ha hd hv hq
    simp only [codeK] at hk
    refine wp_seq (ihx s h O _ hk _ a w ha hd hv ?_)
    intro e s' h' O' a' w' e1 e2 st hk
    cases e with
    | normal => exact ihy s' h' O' K hk Q a' w' e1 e2 st.val fun e s2 h2 O2 a2 w2 e3 e4 st2 hk2 => hq e s2 h2 O2 a2 w2 e3 e4 (st.trans st2) hk2
    | _ => exact hq _ _ _ _ _ _ e1 e2 st hk
  | cond c x y ihx ihy =>
    intro s h O K hk Q a w ha hd hv hq
    simp only [codeK, evK_eq] at hk
    unfold OnB at hk
    split at hk
    · rename_i b hb
      have hk := hk.run
      have hc : a.eval c = .bool b := by rw [eval_eq ha]; exact hb
      cases b with
      | true => exact wp_cond_true hc (ihx s h O K hk Q a w ha hd hv hq)
      | false => exact wp_cond_false hc (ihy s h O K hk Q a w ha hd hv hq)
    · exact hk.elim
  | block id x ih =>
    intro s h O K hk Q a w ha hd hv hq
    simp only [codeK] at hk
    refine wp_block (ih s h O _ hk _ a w ha hd hv ?_)
    intro e s' h' O' a' w' e1 e2 st hk
    cases e with
    | exit i =>
      simp only [Exit.inBlock]
      simp only at hk
      split at hk
      · rename_i hb
        rw [if_pos (Nat.eq_of_beq_eq_true hb)]
        exact hq _ _ _ _ _ _ e1 e2 st hk
      · rename_i hb
        rw [if_neg (fun e => by rw [e] at hb; simp at hb)]
        exact hq _ _ _ _ _ _ e1 e2 st hk
    | _ => exact hq _ _ _ _ _ _ e1 e2 st hk
  | loop c0 ih =>
    intro s h O K hk Q a w ha hd hv hq
    simp only [codeK] at hk
    revert hv hq
    induction hk with
    | know hk ih2 => exact fun hv hq => ih2 ⟨w, hv⟩ hv hq
    | mk X I μ x0 h1 O1 wk h0 round =>
      intro hv hq b k cs
      have key : ∀ n x s' h' O' a' w', μ x = n → a'.tmps = ⟨s'⟩ → a'.defers = [] → Step h O w h' O' w' → I x s' h' O' →
          ∃ e a2 w2, Q e a2 w2 ∧ Arrives P (lone (b.at a' (.code c0 :: .inLoop c0 :: k)) cs w') b k cs e a2 w2 := by
        intro n
        induction n using Nat.strongRecOn with
        | _ n ihn =>
          intro x s' h' O' a' w' hμ e1 e2 st hI
          obtain ⟨e, a2, w2, hq2, harr⟩ := ih s' h' O' _ (round x s' h' O' hI)
            (Exit.then (fun a3 w3 => ∃ x3 s3 h3 O3, μ x3 < n ∧ a3.tmps = ⟨s3⟩ ∧ a3.defers = [] ∧ Step h O w h3 O3 w3 ∧ I x3 s3 h3 O3) Q) a' w' e1 e2 st.val
            (by
              intro e s2 h2 O2 a2 w2 e3 e4 st2 hk2
              cases e with
              | normal =>
                obtain ⟨x3, h3, O3, wk3, hlt, hI3⟩ := hk2 ⟨w2, st2.val⟩
                exact ⟨x3, s2, h3, O3, hμ ▸ hlt, e3, e4, (st.trans st2).postWk wk3, hI3⟩
              | _ => exact hq _ _ _ _ _ _ e3 e4 (st.trans st2) hk2) b (.inLoop c0 :: k) cs
          cases e with
          | normal =>
            obtain ⟨x3, s3, h3, O3, hlt, e3, e4, st3, hI3⟩ := hq2
            obtain ⟨e5, a5, w5, hq5, harr5⟩ := ihn (μ x3) hlt x3 s3 h3 O3 a2 w2 rfl e3 e4 st3 hI3
            exact ⟨e5, a5, w5, hq5, .of_steps (Steps.trans harr (.one step_inLoop)) harr5⟩
          | exit id => exact ⟨_, a2, w2, hq2, .pass (x := .inLoop c0) rfl (fun _ _ => .inl (by simp)) harr⟩
          | goto l => exact ⟨_, a2, w2, hq2, .pass (x := .inLoop c0) rfl (fun _ _ => .inl (by simp)) harr⟩
          | ret => exact ⟨_, a2, w2, hq2, .pass (x := .inLoop c0) rfl (fun _ _ => .inl (by simp)) harr⟩
          | panic ch => exact ⟨_, a2, w2, hq2, .pass (x := .inLoop c0) rfl (fun _ _ => .inl (by simp)) harr⟩
          | outgrown => exact ⟨_, a2, w2, hq2, .pass (x := .inLoop c0) rfl (fun _ _ => .inl (by simp)) harr⟩
      obtain ⟨e, a2, w2, hq2, harr⟩ := key _ x0 s h1 O1 a w rfl ha hd ((Step.refl hv).postWk wk) h0
      exact ⟨e, a2, w2, hq2, .of_steps (.one step_loop) harr⟩
  | exit id => exact fun s h O K hk Q a w ha hd hv hq => wp_exit (hq _ _ _ _ _ _ ha hd (Step.refl hv) hk)
  | ret => exact fun s h O K hk Q a w ha hd hv hq => wp_ret (hq _ _ _ _ _ _ ha hd (Step.refl hv) hk)
  | _ => intros; intro Q a w; rename_i hk; simp [codeK] at hk

/-! ## functions -/
inductive FinSt (v : Value) (h : View) (O : Hp) (R : Value → View → Hp → Prop) : Prop
  | mk (h2 : View) (O2 : Hp) (wk : Wk h O h2 O2) (hR : R v h2 O2)
  | know (hk : (∃ w, Val h O w) → FinSt v h O R)
theorem FinSt.run {v : Value} {h : View} {O : Hp} {R : Value → View → Hp → Prop} (hk : FinSt v h O R) (hv : ∃ w, Val h O w) : ∃ h2 O2, Wk h O h2 O2 ∧ R v h2 O2 := by
  induction hk with
  | mk h2 O2 wk hR => exact ⟨h2, O2, wk, hR⟩
  | know hk ih => exact ih hv
def resK (P : Program) (s : List Value) (h : View) (O : Hp) : List ResultVar → (List Value → Prop) → Prop
  | [], K => K []
  | .tmp t :: r, K => getK s t fun v => resK P s h O r fun vs => K (v :: vs)
  | .cell a t :: r, K => getK s a fun p => loadK P t p h O fun v => resK P s h O r fun vs => K (v :: vs)
def finK (P : Program) (fn : Func) (R : Value → View → Hp → Prop) (e : Exit) (s : List Value) (h : View) (O : Hp) : Prop :=
  match e with
  | .ret | .normal => resK P s h O fn.results.toList fun vs => match vs with
    | [v] => FinSt v h O R
    | vs => FinSt (.tuple ⟨vs⟩) h O R
  | _ => False
theorem resK_run {s : List Value} {h : View} {O : Hp} {rs : List ResultVar} {K : List Value → Prop} (hk : resK P s h O rs K) {w : World} (hv : Val h O w) {a : Act} (ha : a.tmps = ⟨s⟩) :
    ∃ vs, K vs ∧ (rs.mapM fun (r : ResultVar) => (match r with
      | .tmp t => pure (a.tmps.getD t undef)
      | .cell c t => do loadVar t (← asAddr (a.tmps.getD c undef)) : Sem Value)).run P w = .ok vs w ∧ vs.length = rs.length := by
  induction rs generalizing K with
  | nil => exact ⟨[], hk, by simp, rfl⟩
  | cons r rs ih =>
    have hget : ∀ t, a.tmps.getD t undef = getS s t := by intro t; rw [getS_eq, ha]; simp [List.getD_eq_getElem?_getD]
    cases r with
    | tmp t =>
      simp only [resK, getK_eq] at hk
      obtain ⟨vs, hk, hr, hl⟩ := ih hk
      refine ⟨_, hk, ?_, by simp [hl]⟩
      rw [List.mapM_cons, Sem.run_bind]
      simp only [Sem.run_pure, Result.andThen_ok, Sem.run_bind]
      rw [hr, hget]; rfl
    | cell c t =>
      simp only [resK, getK_eq] at hk
      obtain ⟨v, hk, hr1⟩ := loadK_run hk
      obtain ⟨vs, hk, hr, hl⟩ := ih hk
      refine ⟨_, hk, ?_, by simp [hl]⟩
      have h1 := hr1 w hv
      have h2 : (do loadVar t (← asAddr (a.tmps.getD c undef)) : Sem Value).run P w = .ok v w := by
        rw [hget]
        cases hg : getS s c with
        | pointer p => cases p with
          | none => rw [hg] at h1; simp [Instr.loadAt, Instr.sureAddr] at h1
          | some p => rw [hg] at h1; simpa [Instr.loadAt, Instr.sureAddr, asAddr] using h1
        | _ => rw [hg] at h1; simp [Instr.loadAt, Instr.sureAddr] at h1
      rw [List.mapM_cons, Sem.run_bind, h2]
      simp only [Result.andThen_ok, Sem.run_bind, hr, Sem.run_pure]
theorem finK_run {fn : Func} {R : Value → View → Hp → Prop} {e : Exit} {s : List Value} {h : View} {O : Hp} (hk : finK P fn R e s h O) {w : World} (hv : Val h O w) {a : Act} (ha : a.tmps = ⟨s⟩) :
    (e = .ret ∨ e = .normal) ∧ ∃ v h2 O2, (results fn a.tmps).run P w = .ok v w ∧ Wk h O h2 O2 ∧ R v h2 O2 := by
  have main : ∀ hk : (resK P s h O fn.results.toList fun vs => match vs with
    | [v] => FinSt v h O R
    | vs => FinSt (.tuple ⟨vs⟩) h O R), ∃ v h2 O2, (results fn a.tmps).run P w = .ok v w ∧ Wk h O h2 O2 ∧ R v h2 O2 := by
    intro hk
    obtain ⟨vs, hk, hr, _⟩ := resK_run hk hv ha
    have hres : ∀ v, v = (if h : (⟨vs⟩ : Array Value).size = 1 then (⟨vs⟩ : Array Value)[0] else .tuple ⟨vs⟩) → (results fn a.tmps).run P w = .ok v w := by
      intro v e
      unfold results
      rw [Array.mapM_eq_mapM_toList, Sem.run_bind, Sem.run_map]
      refine (congrArg (fun r => (Result.andThen (Result.andThen r fun a w' => Result.ok (List.toArray a) w') _)) hr).trans ?_
      rw [e]; rfl
    split at hk
    · obtain ⟨h2, O2, wk, hR⟩ := hk.run ⟨w, hv⟩
      exact ⟨_, h2, O2, hres _ rfl, wk, hR⟩
    · rename_i hne
      obtain ⟨h2, O2, wk, hR⟩ := hk.run ⟨w, hv⟩
      · refine ⟨_, h2, O2, hres _ ?_, wk, hR⟩
        rw [dif_neg]
        intro h1
        match vs, h1, hne with
        | [v], _, hne => exact hne v rfl
  cases e with
  | ret => exact ⟨.inl rfl, main hk⟩
  | normal => exact ⟨.inr rfl, main hk⟩
  | _ => exact hk.elim

def undK : Nat → (List Value → Prop) → Prop
  | 0, K => K []
  | n + 1, K => undK n fun r => K (undef :: r)
def padK : List Value → Nat → (List Value → Prop) → Prop
  | [], n, K => undK n K
  | v :: l, n, K => padK l n fun r => K (v :: r)
theorem undK_eq (n : Nat) (K : List Value → Prop) : undK n K = K (List.replicate n undef) := by
  induction n generalizing K with
  | zero => rfl
  | succ n ih => rw [undK, ih]; rfl
theorem padK_eq (l : List Value) (n : Nat) (K : List Value → Prop) : padK l n K = K (l ++ List.replicate n undef) := by
  induction l generalizing K with
  | nil => rw [padK, undK_eq]; rfl
  | cons v l ih => rw [padK, ih]; rfl

theorem GSpec.enter {f : FuncId} {fn : Func} {c : Code} {args : List Value} {h : View} {O : Hp} {R : Value → View → Hp → Prop} (hf : P.funcs[f]? = some fn) (hb : fn.body = some c)
    (hn : (fn.name == "runtime.NumGoroutine") = false) (hk : padK args (fn.ntmps - args.length) fun s => codeK P c s h O (finK P fn R)) : GSpec P f args h O R := by
  refine ⟨⟨fn, hf, by rw [hb]; rfl, hn⟩, fun w hv => ?_⟩
  refine calls_of_wp hf hb ?_
  rw [padK_eq] at hk
  refine codeK_sound c _ h O _ hk _ _ w ?_ rfl hv ?_
  · apply Array.ext'; simp
  · intro e s' h' O' a' w' e1 e2 st hk
    obtain ⟨he, v, h2, O2, hr, wk, hR⟩ := finK_run hk st.val e1
    rcases he with rfl | rfl
    · exact ⟨e2, v, hr, v, h2, O2, rfl, st.postWk wk, hR⟩
    · exact ⟨e2, v, hr, v, h2, O2, rfl, st.postWk wk, hR⟩
end Gv
end Go
/- Regions whose order is open: one order is walked, every order answers the same. -/
namespace Go
namespace Gv
variable {P : Program}

/-- 0: computes; 1: reads; 2: calls; 3: makes; 4: else. -/
def cls (P : Program) (o : Op) : Nat :=
  match isLight P o with
  | true => match o with
    | .load .. | .convert .. | .lookup .. | .call _ => 1
    | _ => 0
  | false => match o with
    | .call { callee := .value _, .. } => 2
    | .alloc _ | .box .. | .buildSlice .. | .makeSlice .. | .makeMap .. => 3
    | _ => 4
def commute (P : Program) (ops : Array Oper) (a x : Oper) : Bool :=
  match cls P a.op, cls P x.op with
  | 0, _ => a.apart ops x
  | _, 0 => a.apart ops x
  | 1, 1 => a.apart ops x
  | 1, 2 => a.apart ops x
  | 1, 3 => a.apart ops x
  | _, _ => false

/-- In a region whose order is open a call is made with nothing handed over. -/
inductive CallG (P : Program) (f : FuncId) (args : List Value) (h : View) (O : Hp) (K : Value → View → Hp → Prop) : Prop
  | mk (R : Value → View → Hp → Prop) (sp : GSpec P f args h [] R) (hk : ∀ v h' O', (∀ b o, h b = some o → h' b = some o) → R v h' O' → K v h' (O' ++ O))
  | drop (R : Value → Prop) (sp : GSpec P f args h [] fun v _ _ => R v) (hk : ∀ v, R v → K v h O)
  | all (R : Value → Hp → Prop) (sp : GSpec P f args h O (New O R)) (hk : ∀ v H, R v H → K v h (H ++ O))
  | know (hk : (∃ w, Val h O w) → CallG P f args h O K)
theorem CallG.call {f : FuncId} {args : List Value} {h : View} {O : Hp} {K : Value → View → Hp → Prop} (hc : CallG P f args h O K) :
    CallSt P f args h O fun v h' O' => (∀ b o, (b, o) ∈ O → (b, o) ∈ O') ∧ K v h' O' := by
  induction hc with
  | know hk ih => exact .know ih
  | all R sp hk => exact .part O [] (by rw [List.append_nil]; exact Wk.refl _ _) _ sp fun v O' ⟨H, e, hR⟩ => ⟨H ++ O, by rw [e, List.append_nil]; exact Wk.refl _ _, fun b o e => List.mem_append_right _ e, hk v H hR⟩
  | mk R sp hk => exact .mk h [] O (Wk.refl _ _) R sp fun v h' O' hm _ hR => ⟨h', O' ++ O, Wk.refl _ _, fun b o e => List.mem_append_right _ e, hk v h' O' hm hR⟩
  | drop R sp hk => exact .drop R sp fun v hR => ⟨fun b o e => e, hk v hR⟩
def gK (P : Program) (o : Op) (ty : TypeId) (s : List Value) (h : View) (O : Hp) (K : Value → View → Hp → Prop) : Prop :=
  match cls P o with
  | 2 => match o with
    | .call { callee := .value f, args, .. } => evK s f fun fv => match fv with
      | .func (.func fid) first cap => evsK s args.toList fun vs => appK vs cap.toList fun vs => appK first.toList vs fun vs => CallG P fid vs h O K
      | _ => False
    | _ => False
  | _ => opK P o ty s h O K

def RunsG (P : Program) (ops : Array Oper) (o : Oper) (s : List Value) (h : View) (O : Hp) (v : Value) : Prop :=
  (Region.wanted o (yielded ops ⟨s⟩) = true ∧ Runs P o.op o.type s h O v) ∨ (Region.wanted o (yielded ops ⟨s⟩) = false ∧ v = undef)
/-- How an operation goes, said of its class. -/
inductive SOp (P : Program) (ops : Array Oper) (o : Oper) (s : List Value) (h : View) (O : Hp) (K : List Value → View → Hp → Prop) : Prop
  | light (v : Value) (hr : RunsG P ops o s h O v) (hp : cls P o.op = 0 → ∀ h' O', RunsG P ops o s h' O' v) (hc : cls P o.op = 0 ∨ cls P o.op = 1) (hk : K (putS s o.dst v) h O)
  | skip (hw : Region.wanted o (yielded ops ⟨s⟩) = false) (hk : K (putS s o.dst undef) h O)
  | heavy (hw : Region.wanted o (yielded ops ⟨s⟩) = true) (hg : cls P o.op = 2 ∨ cls P o.op = 3 → Sound P o.op o.type s h O fun v h' O' => (∀ b x, (b, x) ∈ O → (b, x) ∈ O') ∧ K (putS s o.dst v) h' O')
      (hc : 2 ≤ cls P o.op) (hk : Sound P o.op o.type s h O fun v h' O' => K (putS s o.dst v) h' O')

theorem SOp.mono {ops : Array Oper} {o : Oper} {s : List Value} {h : View} {O : Hp} {K K' : List Value → View → Hp → Prop} (hs : SOp P ops o s h O K) (hm : ∀ s h O, K s h O → K' s h O) :
    SOp P ops o s h O K' := by
  cases hs with
  | light v hr hp hc hk => exact .light v hr hp hc (hm _ _ _ hk)
  | skip hw hk => exact .skip hw (hm _ _ _ hk)
  | heavy hw hg hc hk => exact .heavy hw (fun e => (hg e).mono fun v h O e => ⟨e.1, hm _ _ _ e.2⟩) hc (hk.mono fun v h O e => hm _ _ _ e)

theorem lightK_pure {o : Op} (hc : cls P o = 0) {s : List Value} {h h' : View} {O O' : Hp} {K : Value → Prop} (hk : lightK P o s h O K) : lightK P o s h' O' K := by
  cases o <;> first
    | exact hk
    | (exfalso; simp only [cls] at hc; split at hc <;> simp at hc; done)
    | (simp only [cls, isLight] at hc; exfalso; revert hc; split <;> (try split) <;> simp; done)

theorem cls_light {o : Op} (h : isLight P o = true) : cls P o = 0 ∨ cls P o = 1 := by
  unfold cls; rw [h]; simp only; split <;> simp
theorem cls_heavy {o : Op} (h : isLight P o = false) : 2 ≤ cls P o := by
  unfold cls; rw [h]; simp only; split <;> simp

theorem Sound.mkGrow {o : Op} {ty : TypeId} {s : List Value} {h : View} {O : Hp} {K : Value → View → Hp → Prop} (hk : gK P o ty s h O K) (hc : cls P o = 2 ∨ cls P o = 3) :
    Sound P o ty s h O fun v h' O' => (∀ b x, (b, x) ∈ O → (b, x) ∈ O') ∧ K v h' O' := by
  have hl : isLight P o = false := by
    cases e : isLight P o with
    | false => rfl
    | true => rcases cls_light e with h1 | h1 <;> omega
  unfold gK at hk
  split at hk
  · split at hk
    · refine heavyK_sound ?_
      simp only [heavyK, evK_eq, evsK_eq, appK_eq] at hk ⊢
      split at hk
      · rename_i e; simp only [e]; exact hk.call
      · exact hk.elim
    · exact hk.elim
  · rename_i hne
    have hc3 : cls P o = 3 := hc.resolve_left hne
    unfold opK at hk
    rw [hl] at hk
    simp only at hk
    refine heavyK_sound ?_
    have mk : ∀ {obj : Obj} {K1 : Nat → View → Hp → Prop}, AllocSt h O obj K1 → AllocSt h O obj fun b h' O' => (∀ c x, (c, x) ∈ O → (c, x) ∈ O') ∧ K1 b h' O' := by
      intro obj K1 ha
      cases ha with | mk hk => exact .mk fun b h1 h2 => ⟨fun c x e => List.mem_cons_of_mem _ e, hk b h1 h2⟩
    cases o with
    | alloc t =>
      simp only [heavyK] at hk ⊢
      split at hk
      · rename_i i hi
        split at hk
        · exact mk hk
        · exact hk.elim
      · exact hk.elim
    | box t x => simp only [heavyK, evK_eq] at hk ⊢; exact mk hk
    | buildSlice t len parts =>
      simp only [heavyK] at hk ⊢
      split at hk
      · rename_i e hu
        split at hk
        · rename_i inf hi
          split at hk
          · rename_i z hz hb
            split at hk
            · rename_i hs
              have : ∀ (ps : List (Nat × Operand)) (cells : List Value), fillK s (fun i => some (i * inf.size, inf.size)) cells ps (fun cs => AllocSt h O (.cells ⟨cs⟩ e) fun b h' O' => K (.slice (some ⟨b, 0, none⟩) len len) h' O') →
                  fillK s (fun i => some (i * inf.size, inf.size)) cells ps (fun cs => AllocSt h O (.cells ⟨cs⟩ e) fun b h' O' => (∀ c x, (c, x) ∈ O → (c, x) ∈ O') ∧ K (.slice (some ⟨b, 0, none⟩) len len) h' O') := by
                intro ps
                induction ps with
                | nil => intro cells hk; exact mk hk
                | cons p ps ih =>
                  intro cells hk
                  obtain ⟨i, x⟩ := p
                  simp only [fillK, evK_eq, setRangeK_eq] at hk ⊢
                  split at hk
                  · rename_i e1 e2
                    exact ih _ hk
                  · exact hk.elim
              exact this _ _ hk
            · exact hk.elim
          · exact hk.elim
        · exact hk.elim
      · exact hk.elim
    | makeSlice t l c =>
      simp only [heavyK] at hk ⊢
      split at hk
      · split at hk
        · rename_i inf hi
          simp only [evK_eq] at hk ⊢
          split at hk
          · rename_i e1 e2
            cases hk with | mk h0 h1 h2 h3 z hz hs hk =>
              exact .mk h0 h1 h2 h3 z hz hs (mk hk)
          · exact hk.elim
        · exact hk.elim
      · exact hk.elim
    | makeMap t r =>
      cases r with
      | none => simp only [heavyK] at hk ⊢; exact mk hk
      | some r => exact hk.elim
    | _ => exfalso; clear hc hne; revert hc3; simp only [cls]; split <;> (try split) <;> first | (simp; done) | (rename_i heq; cases heq)

theorem gK_op {o : Op} {ty : TypeId} {s : List Value} {h : View} {O : Hp} {K : Value → View → Hp → Prop} (hk : gK P o ty s h O K) (hc : cls P o ≠ 2) : opK P o ty s h O K := by
  unfold gK at hk
  split at hk
  · rename_i e; exact absurd e hc
  · exact hk
end Gv
end Go
/- Regions whose order is open: two operations beside each other may change places. -/
namespace Go
namespace Gv
variable {P : Program}

theorem putS_comm {s : List Value} {x y : Option Tmp} (v u : Value) (h : ∀ d, x = some d → y ≠ some d) : putS (putS s x v) y u = putS (putS s y u) x v := by
  cases x with
  | none => rfl
  | some d =>
    cases y with
    | none => rfl
    | some e =>
      have hne : d ≠ e := fun he => h d rfl (he ▸ rfl)
      simp only [putS]
      exact List.set_comm _ _ hne

section
variable {ops : Array Oper} {o : Oper} {d : Option Tmp} {s : List Value} {v : Value}
theorem wanted_putS (hl : ∀ t, d = some t → t ∉ o.looksAt ops) : Region.wanted o (yielded ops ⟨putS s d v⟩) = Region.wanted o (yielded ops ⟨s⟩) := by
  have := wanted_put (ops := ops) o ⟨⟨s⟩, []⟩ d v hl
  rw [put_tmps (a := ⟨⟨s⟩, []⟩) rfl] at this
  exact this
theorem exec_putS (hs : ∀ cs b, o.op ≠ .select cs b) (hl : ∀ t, d = some t → t ∉ o.looksAt ops) {a b : Act} (ha : a.tmps = ⟨s⟩) (hb : b.tmps = ⟨putS s d v⟩) : execOp b.eval o = execOp a.eval o := by
  have e : b.eval = (a.put d v).eval := by funext x; rw [eval_eq hb, eval_eq (put_tmps ha d v)]
  rw [e]; exact execOp_put o hs a d v hl
theorem exec_same {o' : Oper} (h1 : o'.op = o.op) (h2 : o'.type = o.type) (ρ : Operand → Value) : execOp ρ o' = execOp ρ o := by
  obtain ⟨_, _, _, _, _, _⟩ := o; obtain ⟨_, _, _, _, _, _⟩ := o'; simp only at h1 h2; subst h1 h2; rfl
theorem Runs.putS (hs : ∀ cs b, o.op ≠ .select cs b) (hl : ∀ t, d = some t → t ∉ o.looksAt ops) {h : View} {O : Hp} {u : Value} :
    Runs P o.op o.type (putS s d v) h O u ↔ Runs P o.op o.type s h O u := by
  constructor
  · intro hr a w pos dst af g ha hv
    have := hr (a.put d v) w pos dst af g (put_tmps ha d v) hv
    rw [exec_same (o := o) (by rfl) (by rfl)] at this ⊢
    rw [← exec_putS hs hl ha (put_tmps ha d v)]; exact this
  · intro hr b w pos dst af g hb hv
    have := hr ⟨⟨s⟩, []⟩ w pos dst af g rfl hv
    rw [exec_same (o := o) (by rfl) (by rfl)] at this ⊢
    rw [exec_putS hs hl (a := ⟨⟨s⟩, []⟩) rfl hb]; exact this
theorem RunsG.putS (hs : ∀ cs b, o.op ≠ .select cs b) (hl : ∀ t, d = some t → t ∉ o.looksAt ops) {h : View} {O : Hp} {u : Value} :
    RunsG P ops o (putS s d v) h O u ↔ RunsG P ops o s h O u := by
  unfold RunsG; rw [wanted_putS hl, Runs.putS hs hl]
theorem Sound.putS (hs : ∀ cs b, o.op ≠ .select cs b) (hl : ∀ t, d = some t → t ∉ o.looksAt ops) {h : View} {O : Hp} {K : Value → View → Hp → Prop} :
    Sound P o.op o.type (putS s d v) h O K ↔ Sound P o.op o.type s h O K := by
  constructor
  · intro hr a w pos dst af g ha hv
    have := hr (a.put d v) w pos dst af g (put_tmps ha d v) hv
    rw [exec_same (o := o) (by rfl) (by rfl)] at this ⊢
    rw [← exec_putS hs hl ha (put_tmps ha d v)]; exact this
  · intro hr b w pos dst af g hb hv
    have := hr ⟨⟨s⟩, []⟩ w pos dst af g rfl hv
    rw [exec_same (o := o) (by rfl) (by rfl)] at this ⊢
    rw [exec_putS hs hl (a := ⟨⟨s⟩, []⟩) rfl hb]; exact this
end

theorem Runs.det {o : Op} {ty : TypeId} {s : List Value} {h h' : View} {O O' : Hp} {u v : Value} (h1 : Runs P o ty s h O u) (h2 : Runs P o ty s h' O' v) {w : World} (hv : Val h O w) (hv' : Val h' O' w) : u = v := by
  have e1 := h1 ⟨⟨s⟩, []⟩ w "" none #[] none rfl hv
  have e2 := h2 ⟨⟨s⟩, []⟩ w "" none #[] none rfl hv'
  rw [e1] at e2
  cases e2; rfl
theorem RunsG.det {ops : Array Oper} {o : Oper} {s : List Value} {h h' : View} {O O' : Hp} {u v : Value} (h1 : RunsG P ops o s h O u) (h2 : RunsG P ops o s h' O' v) {w : World} (hv : Val h O w) (hv' : Val h' O' w) : u = v := by
  rcases h1 with ⟨w1, h1⟩ | ⟨w1, rfl⟩ <;> rcases h2 with ⟨w2, h2⟩ | ⟨w2, rfl⟩
  · exact h1.det h2 hv hv'
  · rw [w1] at w2; cases w2
  · rw [w1] at w2; cases w2
  · rfl
/-- What is known of a part holds of more. -/
theorem Runs.grow {o : Op} {ty : TypeId} {s : List Value} {h h' : View} {O O' : Hp} {u : Value} (hr : Runs P o ty s h O u) {w0 : World} (hv : Val h O w0) (hm : ∀ b x, h b = some x → h' b = some x)
    (hs : ∀ b x, (b, x) ∈ O → (b, x) ∈ O') : Runs P o ty s h' O' u := by
  intro a w pos dst af g ha hv'
  exact hr a w pos dst af g ha ⟨fun b x e => hv'.per b x (hm b x e), fun b x e => hv'.own b x (hs b x e), hv.nodup, hv.apart⟩
theorem RunsG.grow {ops : Array Oper} {o : Oper} {s : List Value} {h h' : View} {O O' : Hp} {u : Value} (hr : RunsG P ops o s h O u) {w0 : World} (hv : Val h O w0) (hm : ∀ b x, h b = some x → h' b = some x)
    (hs : ∀ b x, (b, x) ∈ O → (b, x) ∈ O') : RunsG P ops o s h' O' u :=
  hr.imp (fun e => ⟨e.1, e.2.grow hv hm hs⟩) id

theorem apart_of {ops : Array Oper} {a x : Oper} (h : commute P ops a x = true) : a.apart ops x = true := by
  unfold commute at h; split at h <;> first | exact h | cases h

theorem swap {ops : Array Oper} {a x : Oper} (hc : commute P ops a x = true) (hsa : ∀ cs b, a.op ≠ .select cs b) (hsx : ∀ cs b, x.op ≠ .select cs b)
    {s : List Value} {h : View} {O : Hp} {K : List Value → View → Hp → Prop} {w0 : World} (hv : Val h O w0)
    (hk : SOp P ops a s h O fun s h O => SOp P ops x s h O K) : SOp P ops x s h O fun s h O => SOp P ops a s h O K := by
  obtain ⟨a1, a2, a3⟩ := Oper.apart_spec (apart_of hc)
  have comm : ∀ v u, putS (putS s a.dst v) x.dst u = putS (putS s x.dst u) a.dst v := fun v u => putS_comm v u a2
  cases hk with
  | light v hr hp hl hk =>
    cases hk with
    | light u hr2 hp2 hl2 hk2 =>
      refine .light u ((RunsG.putS hsx a1).1 hr2) (fun e h' O' => (RunsG.putS hsx a1).1 (hp2 e h' O')) hl2 ?_
      refine .light v ((RunsG.putS hsa a3).2 hr) (fun e h' O' => (RunsG.putS hsa a3).2 (hp e h' O')) hl ?_
      rw [← comm]; exact hk2
    | skip hw hk2 =>
      refine .skip (by rw [← hw]; exact (wanted_putS a1).symm) ?_
      refine .light v ((RunsG.putS hsa a3).2 hr) (fun e h' O' => (RunsG.putS hsa a3).2 (hp e h' O')) hl ?_
      rw [← comm]; exact hk2
    | heavy hw hg h2 hk2 =>
      rw [wanted_putS a1] at hw
      rcases hl with h0 | h0
      · refine .heavy hw (fun e => ((Sound.putS hsx a1).1 (hg e)).mono fun u h' O' ⟨e1, e2⟩ => ⟨e1, ?_⟩) h2 (((Sound.putS hsx a1).1 hk2).mono fun u h' O' e2 => ?_)
        · refine .light v ((RunsG.putS hsa a3).2 (hp h0 h' O')) (fun e h' O' => (RunsG.putS hsa a3).2 (hp e h' O')) (.inl h0) ?_
          rw [← comm]; exact e2
        · refine .light v ((RunsG.putS hsa a3).2 (hp h0 h' O')) (fun e h' O' => (RunsG.putS hsa a3).2 (hp e h' O')) (.inl h0) ?_
          rw [← comm]; exact e2
      · have hx : cls P x.op = 2 ∨ cls P x.op = 3 := by
          unfold commute at hc
          rw [h0] at hc
          split at hc
          · rename_i e; cases e
          · omega
          · omega
          · exact .inl (by assumption)
          · exact .inr (by assumption)
          · cases hc
        have hs := ((Sound.putS hsx a1).1 (hg hx)).more
        have main : ∀ u h' O', (∀ b x, h b = some x → h' b = some x) → (∀ b x, (b, x) ∈ O → (b, x) ∈ O') → K (putS (putS s a.dst v) x.dst u) h' O' → SOp P ops a (putS s x.dst u) h' O' K := by
          intro u h' O' m1 m2 k
          refine .light v ((RunsG.putS hsa a3).2 (hr.grow hv m1 m2)) (fun e h' O' => (RunsG.putS hsa a3).2 (hp e h' O')) (.inr h0) ?_
          rw [← comm]; exact k
        exact .heavy hw (fun _ => hs.mono fun u h' O' ⟨m1, _, m2, k⟩ => ⟨m2, main u h' O' m1 m2 k⟩) h2 (hs.mono fun u h' O' ⟨m1, _, m2, k⟩ => main u h' O' m1 m2 k)
  | skip hw hk =>
    have hwa : ∀ u, Region.wanted a (yielded ops ⟨putS s x.dst u⟩) = false := fun u => by rw [wanted_putS a3]; exact hw
    cases hk with
    | light u hr2 hp2 hl2 hk2 =>
      refine .light u ((RunsG.putS hsx a1).1 hr2) (fun e h' O' => (RunsG.putS hsx a1).1 (hp2 e h' O')) hl2 (.skip (hwa u) ?_)
      rw [← comm]; exact hk2
    | skip hw2 hk2 =>
      refine .skip (by rw [← hw2]; exact (wanted_putS a1).symm) (.skip (hwa _) ?_)
      rw [← comm]; exact hk2
    | heavy hw2 hg h2 hk2 =>
      rw [wanted_putS a1] at hw2
      refine .heavy hw2 (fun e => ((Sound.putS hsx a1).1 (hg e)).mono fun u h' O' ⟨e1, e2⟩ => ⟨e1, .skip (hwa u) ?_⟩) h2 (((Sound.putS hsx a1).1 hk2).mono fun u h' O' e2 => .skip (hwa u) ?_)
      · rw [← comm]; exact e2
      · rw [← comm]; exact e2
  | heavy hw hg h2 hk =>
    have hx : cls P x.op = 0 := by
      unfold commute at hc
      split at hc
      · omega
      · assumption
      · omega
      · omega
      · omega
      · cases hc
    have hwa : ∀ u, Region.wanted a (yielded ops ⟨putS s x.dst u⟩) = true := fun u => by rw [wanted_putS a3]; exact hw
    have hm := hk.more
    obtain ⟨v0, _, h0, O0, _, _, ⟨w1, hv1⟩, k0⟩ := (hm ⟨⟨s⟩, []⟩ w0 "" none #[] none rfl hv).some
    cases k0 with
    | light u hr2 hp2 hl2 _ =>
      have pu : ∀ h' O', RunsG P ops x s h' O' u := fun h' O' => (RunsG.putS hsx a1).1 (hp2 hx h' O')
      have inner : ∀ v h' O', (∃ w, Val h' O' w) → SOp P ops x (putS s a.dst v) h' O' K → K (putS (putS s x.dst u) a.dst v) h' O' := by
        intro v h' O' ⟨w2, hv2⟩ k
        cases k with
        | light u' hr3 hp3 _ k3 =>
          have : u' = u := ((RunsG.putS hsx a1).1 hr3).det (pu h' O') hv2 hv2
          subst this; rw [← comm]; exact k3
        | skip hw3 k3 =>
          have : undef = u := by
            rcases pu h' O' with ⟨e, _⟩ | ⟨_, e⟩
            · rw [wanted_putS a1] at hw3; rw [hw3] at e; cases e
            · exact e.symm
          rw [← comm, ← this]; exact k3
        | heavy _ _ h3 _ => omega
      refine .light u (pu h O) (fun _ h' O' => pu h' O') (.inl hx) ?_
      refine .heavy (hwa u) (fun e => (((Sound.putS hsa a3).2 (hg e)).more).mono fun v h' O' ⟨_, e1, e2, e3⟩ => ⟨e2, inner v h' O' e1 e3⟩) h2
        ((((Sound.putS hsa a3).2 hk).more).mono fun v h' O' ⟨_, e1, e3⟩ => inner v h' O' e1 e3)
    | skip hw3 _ =>
      have hws : Region.wanted x (yielded ops ⟨s⟩) = false := by rw [← hw3]; exact (wanted_putS a1).symm
      have inner : ∀ v h' O', SOp P ops x (putS s a.dst v) h' O' K → K (putS (putS s x.dst undef) a.dst v) h' O' := by
        intro v h' O' k
        have hws' : Region.wanted x (yielded ops ⟨putS s a.dst v⟩) = false := by rw [wanted_putS a1]; exact hws
        cases k with
        | light u' hr3 hp3 _ k3 =>
          have : u' = undef := by
            rcases hr3 with ⟨e, _⟩ | ⟨_, e⟩
            · rw [hws'] at e; cases e
            · exact e
          subst this; rw [← comm]; exact k3
        | skip _ k3 => rw [← comm]; exact k3
        | heavy _ _ h3 _ => omega
      refine .skip hws (.heavy (hwa _) (fun e => ((Sound.putS hsa a3).2 (hg e)).mono fun v h' O' ⟨e2, e3⟩ => ⟨e2, inner v h' O' e3⟩) h2
        (((Sound.putS hsa a3).2 hk).mono fun v h' O' e3 => inner v h' O' e3))
    | heavy _ _ h3 _ => omega
end Gv
end Go
/- Regions whose order is open: the walk of one order serves for all. -/
namespace Go
namespace Gv
variable {P : Program}

def SOps (P : Program) (ops : Array Oper) (K : List Value → View → Hp → Prop) : List Nat → List Value → View → Hp → Prop
  | [], s, h, O => K s h O
  | i :: r, s, h, O => ∃ o, ops[i]? = some o ∧ SOp P ops o s h O (SOps P ops K r)
def gB (P : Program) (o : Op) (ty : TypeId) (s : List Value) (h : View) (O : Hp) (b : Bool) (K : Value → View → Hp → Prop) : Prop :=
  match b with
  | true => gK P o ty s h O K
  | false => K undef h O
/-- The walk of the region in one order. -/
def opsG (P : Program) (all : List Oper) : List Nat → List Value → View → Hp → (List Value → View → Hp → Prop) → Prop
  | [], s, h, O, K => NextSt (K s h O)
  | i :: r, s, h, O, K => match all[i]? with
    | some o => guardB all s o.guard fun b =>
        gB P o.op o.type s h O b fun v h' O' => putK s o.dst v fun s' => opsG P all r s' h' O' K
    | none => False

theorem SOp.monoV {ops : Array Oper} {o : Oper} {s : List Value} {h : View} {O : Hp} {K K' : List Value → View → Hp → Prop} (hs : SOp P ops o s h O K) {w : World} (hv : Val h O w)
    (hm : ∀ s h O, (∃ w, Val h O w) → K s h O → K' s h O) : SOp P ops o s h O K' := by
  cases hs with
  | light v hr hp hc hk => exact .light v hr hp hc (hm _ _ _ ⟨w, hv⟩ hk)
  | skip hw hk => exact .skip hw (hm _ _ _ ⟨w, hv⟩ hk)
  | heavy hw hg hc hk => exact .heavy hw (fun e => ((hg e).more).mono fun v h O ⟨_, e1, e2, e3⟩ => ⟨e2, hm _ _ _ e1 e3⟩) hc ((hk.more).mono fun v h O ⟨_, e1, e3⟩ => hm _ _ _ e1 e3)

theorem Val.wk' {h : View} {O : Hp} {w : World} (_ : Val h O w) : Val (fun _ => none) [] w := ⟨by simp, by simp, by simp, by simp⟩

theorem SOp.of_gK {ops : Array Oper} {o : Oper} {s : List Value} {h : View} {O : Hp} {K : List Value → View → Hp → Prop}
    (hk : guardK ops.toList s o.guard (gK P o.op o.type s h O fun v h' O' => K (putS s o.dst v) h' O') (K (putS s o.dst undef) h O)) : SOp P ops o s h O K := by
  rcases guardK_run hk with ⟨hw, hk⟩ | ⟨hw, hk⟩
  · cases hl : isLight P o.op with
    | true =>
      have hc := cls_light hl
      have hop := gK_op hk (by omega)
      unfold opK at hop
      rw [hl] at hop
      simp only at hop
      obtain ⟨u, hu, hr⟩ := lightK_run o.type hop
      have hp : cls P o.op = 0 → ∀ h' O', ∃ u', K (putS s o.dst u') h O ∧ Runs P o.op o.type s h' O' u' := by
        intro e h' O'
        exact lightK_run o.type (lightK_pure e hop)
      rcases hc with h0 | h1
      · -- it computes: the same whatever is known
        obtain ⟨u0, hu0, hr0⟩ := hp h0 (fun _ => none) []
        refine .light u0 (.inl ⟨hw, fun a w pos dst af g ha hv => hr0 a w pos dst af g ha (hv.wk' )⟩) (fun _ h' O' => .inl ⟨hw, fun a w pos dst af g ha hv => hr0 a w pos dst af g ha hv.wk'⟩) (.inl h0) hu0
      · exact .light u (.inl ⟨hw, hr⟩) (fun e => by omega) (.inr h1) hu
    | false =>
      have hc := cls_heavy hl
      refine .heavy hw (fun e => ?_) hc ?_
      · exact Sound.mkGrow hk e
      · by_cases e2 : cls P o.op = 2
        · exact (Sound.mkGrow hk (.inl e2)).mono fun v h O e => e.2
        · exact opK_sound (gK_op hk e2)
  · exact .skip hw hk

theorem SOps.of_opsG {ops : Array Oper} {K : List Value → View → Hp → Prop} : ∀ (L : List Nat) (s : List Value) (h : View) (O : Hp), opsG P ops.toList L s h O K → SOps P ops K L s h O
  | [], _, _, _, hk => NextSt.out hk
  | i :: r, s, h, O, hk => by
    unfold opsG at hk
    split at hk
    · rename_i o ho
      refine ⟨o, by simpa using ho, ?_⟩
      refine SOp.mono (K := fun s h O => opsG P ops.toList r s h O K) (SOp.of_gK ?_) fun s h O => SOps.of_opsG r s h O
      replace hk := guardB_eq hk
      replace hk : guardK ops.toList s o.guard (gK P o.op o.type s h O fun v h' O' => putK s o.dst v fun s' => opsG P ops.toList r s' h' O' K) (putK s o.dst undef fun s' => opsG P ops.toList r s' h O K) := hk
      simpa only [putK_eq] using hk
    · exact hk.elim

/-! ## orders -/
def edges (ops : Array Oper) (i j : Nat) : Bool :=
  match ops.toList[i]? with
  | some o => o.after.toList.any fun e => Region.binds .any e && Nat.beq e.on j
  | none => false
def comm2 (P : Program) (ops : Array Oper) (i j : Nat) : Bool :=
  match ops.toList[i]?, ops.toList[j]? with
  | some a, some x => commute P ops a x
  | _, _ => false
/-- What hangs on B, among the rest. -/
def hang (ops : Array Oper) : List Nat → List Nat → List Nat
  | B, [] => B
  | B, x :: r => hang ops (match B.any fun b => edges ops x b with | true => x :: B | false => B) r
def pairsOk (P : Program) (ops : Array Oper) : List Nat → Bool
  | [] => true
  | a :: r => (let B := hang ops [a] r; r.all fun x => (comm2 P ops a x || B.any (Nat.beq x)) && !edges ops a x) && pairsOk P ops r
def noRep : List Nat → Bool
  | [] => true
  | a :: r => !r.any (Nat.beq a) && noRep r
theorem noRep_nodup : ∀ L, noRep L = true → L.Nodup
  | [], _ => .nil
  | a :: r, h => by
    simp only [noRep, Bool.and_eq_true] at h
    refine List.nodup_cons.2 ⟨fun hm => ?_, noRep_nodup r h.2⟩
    have : r.any (Nat.beq a) = true := List.any_eq_true.2 ⟨a, hm, by simp⟩
    rw [this] at h; simp at h
def drawOk (P : Program) (ops : Array Oper) (L : List Nat) : Bool :=
  pairsOk P ops L && Nat.beq L.length ops.size && L.all (fun i => Nat.blt i ops.size && !edges ops i i) && (List.range ops.size).all (fun i => L.any (Nat.beq i)) &&
    ops.toList.all (fun o => o.after.toList.all fun e => !Region.binds .any e || Nat.blt e.on ops.size) && Region.noSelect ops && noRep L

def Closed (ops : Array Oper) (listed : Array Bool) : Prop :=
  ∀ i j, edges ops i j = true → listed.getD i false = true → listed.getD j false = true
/-- As long as a is not listed, x is not ready. -/
def Blk (ops : Array Oper) (a x : Nat) : Prop :=
  ∀ listed : Array Bool, listed.size = ops.size → Closed ops listed → listed.getD a true = false → x ∉ Region.ready .any ops listed

theorem edges_ready {ops : Array Oper} {i j : Nat} {listed : Array Bool} (he : edges ops i j = true) (hr : i ∈ Region.ready .any ops listed) : listed.getD j false = true := by
  obtain ⟨_, o, ho, hall⟩ := mem_ready.1 hr
  unfold edges at he
  rw [Array.getElem?_toList, ho] at he
  simp only [List.any_eq_true, Bool.and_eq_true] at he
  obtain ⟨e, hm, hb, hj⟩ := he
  have := hall e (by simpa using hm) hb
  rwa [Nat.eq_of_beq_eq_true hj] at this

theorem getD_false {listed : Array Bool} {i : Nat} (h : listed.getD i true = false) : listed.getD i false = false := by
  simp only [Array.getD_eq_getD_getElem?] at h ⊢
  cases e : listed[i]? with
  | none => rfl
  | some b => rw [e] at h; exact h

theorem hang_edge {ops : Array Oper} {listed : Array Bool} (hc : Closed ops listed) : ∀ (r B : List Nat), (∀ b ∈ B, listed.getD b false = false) →
    ∀ b ∈ hang ops B r, b ∈ B ∨ ∃ c, edges ops b c = true ∧ listed.getD c false = false
  | [], B, _ => fun b hb => .inl hb
  | x :: r, B, hB => by
    unfold hang
    intro b hb
    split at hb
    · rename_i he
      obtain ⟨b', hb', he'⟩ := List.any_eq_true.1 he
      have hx : listed.getD x false = false := by
        cases h2 : listed.getD x false with
        | false => rfl
        | true => have := hc x b' he' h2; rw [hB b' hb'] at this; cases this
      rcases hang_edge hc r (x :: B) (fun c hc' => by
        rcases List.mem_cons.1 hc' with rfl | h1
        · exact hx
        · exact hB c h1) b hb with h1 | h1
      · rcases List.mem_cons.1 h1 with rfl | h1
        · exact .inr ⟨b', he', hB b' hb'⟩
        · exact .inl h1
      · exact .inr h1
    · exact hang_edge hc r B hB b hb

theorem blk_of {ops : Array Oper} {a x : Nat} {r : List Nat} (hx : x ∈ hang ops [a] r) (hne : x ≠ a) : Blk ops a x := by
  intro listed _ hc ha hr
  rcases hang_edge hc r [a] (fun b hb => by rw [List.mem_singleton.1 hb]; exact getD_false ha) x hx with h1 | ⟨c, h1, h2⟩
  · exact hne (List.mem_singleton.1 h1)
  · rw [edges_ready h1 hr] at h2; cases h2

theorem pairs_of {ops : Array Oper} : ∀ L : List Nat, pairsOk P ops L = true → L.Pairwise fun a x => (x = a ∨ comm2 P ops a x = true ∨ Blk ops a x) ∧ edges ops a x = false
  | [], _ => .nil
  | a :: r, h => by
    simp only [pairsOk, Bool.and_eq_true, List.all_eq_true] at h
    refine .cons (fun x hx => ?_) (pairs_of r h.2)
    obtain ⟨h1, h2⟩ := h.1 x hx
    refine ⟨?_, by simpa using h2⟩
    by_cases e : x = a
    · exact .inl e
    · rcases Bool.or_eq_true _ _ ▸ h1 with h3 | h3
      · exact .inr (.inl h3)
      · obtain ⟨b, hb, he⟩ := List.any_eq_true.1 h3
        rw [← Nat.eq_of_beq_eq_true he] at hb
        exact .inr (.inr (blk_of hb e))

/-- An operation that is ready may go first. -/
theorem SOps.front {ops : Array Oper} {K : List Value → View → Hp → Prop} (hsel : Region.noSelect ops = true) {x : Nat} : ∀ (A B : List Nat) (s : List Value) (h : View) (O : Hp), (∃ w, Val h O w) →
    (∀ a ∈ A, comm2 P ops a x = true) → SOps P ops K (A ++ x :: B) s h O → SOps P ops K (x :: (A ++ B)) s h O
  | [], B, s, h, O, _, _, hk => hk
  | a :: A, B, s, h, O, ⟨w, hv⟩, hc, hk => by
    obtain ⟨oa, ha, hk⟩ := hk
    have hcx := hc a (by simp)
    unfold comm2 at hcx
    rw [Array.getElem?_toList, ha, Array.getElem?_toList] at hcx
    cases hx : ops[x]? with
    | none => rw [hx] at hcx; cases hcx
    | some ox =>
      rw [hx] at hcx
      have hk2 : SOp P ops oa s h O fun s h O => SOp P ops ox s h O (SOps P ops K (A ++ B)) := by
        refine hk.monoV hv fun s2 h2 O2 hv2 k2 => ?_
        obtain ⟨ox', hx', k3⟩ := SOps.front hsel A B s2 h2 O2 hv2 (fun b hb => hc b (by simp [hb])) k2
        rw [hx] at hx'; cases hx'
        exact k3
      exact ⟨ox, hx, (swap hcx (Region.noSelect_spec hsel _ _ · · ha) (Region.noSelect_spec hsel _ _ · · hx) hv hk2).mono fun s2 h2 O2 k => ⟨oa, ha, k⟩⟩

theorem SOp.wpOp {ops : Array Oper} {i : Nat} {o : Oper} (ho : ops[i]? = some o) {s : List Value} {h : View} {O : Hp} {K : List Value → View → Hp → Prop} (hs : SOp P ops o s h O K) {a : Act} {w : World}
    {next : Act → World → Prop} {Q : Exit → Act → World → Prop} (ha : a.tmps = ⟨s⟩) (hv : Val h O w) (hn : ∀ v h' O' w', Step h O w h' O' w' → K (putS s o.dst v) h' O' → next (a.put o.dst v) w') :
    Go.wpOp P ops Q i next a w := by
  unfold Go.wpOp
  rw [ho]
  simp only
  rw [ha]
  cases hs with
  | light v hr _ _ hk =>
    rcases hr with ⟨hw, hr⟩ | ⟨hw, rfl⟩
    · rw [hw, if_pos rfl]
      refine .inl ?_
      have := hr a w o.pos o.dst o.after o.guard ha hv
      have e : ({ dst := o.dst, op := o.op, type := o.type, pos := o.pos, after := o.after, guard := o.guard } : Oper) = o := rfl
      rw [e] at this
      unfold Oper.wp
      rw [this, Oper.upon_value]
      exact hn _ _ _ _ (Step.refl hv) hk
    · rw [hw, if_neg (by simp)]
      exact hn _ _ _ _ (Step.refl hv) hk
  | skip hw hk =>
    rw [hw, if_neg (by simp)]
    exact hn _ _ _ _ (Step.refl hv) hk
  | heavy hw _ _ hk =>
    rw [hw, if_pos rfl]
    exact .inl (hk.wp ha hv hn)

structure Inv (P : Program) (E : Nat → Nat → Prop) (ops : Array Oper) (L : List Nat) (listed : Array Bool) : Prop where
  size : listed.size = ops.size
  mem : ∀ i, i ∈ L ↔ listed.getD i true = false
  nodup : L.Nodup
  pw : L.Pairwise fun a x => (x = a ∨ comm2 P ops a x = true ∨ Blk ops a x ∨ E a x) ∧ edges ops a x = false
  selfE : ∀ i ∈ L, edges ops i i = false
  closed : Closed ops listed
  lt : ∀ i j, edges ops i j = true → j < ops.size

theorem getD_lt {listed : Array Bool} {i : Nat} (hi : i < listed.size) : listed.getD i true = listed.getD i false := by
  simp [Array.getD_eq_getD_getElem?, hi]

theorem Inv.step {E : Nat → Nat → Prop} {ops : Array Oper} {A B : List Nat} {x : Nat} {listed : Array Bool} (hi : Inv P E ops (A ++ x :: B) listed) (hr : x ∈ Region.ready .any ops listed) :
    Inv P E ops (A ++ B) (listed.setIfInBounds x true) where
  size := by simp [hi.size]
  mem := fun i => by
    have hn := hi.nodup
    by_cases e : i = x
    · subst e
      have h1 : i ∉ A ++ B := by
        rw [List.nodup_append] at hn
        intro hm
        rcases List.mem_append.1 hm with h2 | h2
        · exact hn.2.2 i h2 i (by simp) rfl
        · exact (List.nodup_cons.1 hn.2.1).1 h2
      have hx := (hi.mem i).1 (by simp)
      have hlt : i < listed.size := by
        rcases Nat.lt_or_ge i listed.size with h2 | h2
        · exact h2
        · rw [Array.getD_eq_getD_getElem?, Array.getElem?_eq_none h2] at hx; cases hx
      constructor
      · intro h2; exact absurd h2 h1
      · intro h2; rw [Array.getD_eq_getD_getElem?, Array.getElem?_setIfInBounds_self_of_lt hlt] at h2; cases h2
    · rw [getD_set_ne true (Ne.symm e), ← hi.mem]
      simp [e]
  nodup := hi.nodup.sublist (List.Sublist.append (List.Sublist.refl _) (List.sublist_cons_self _ _))
  pw := hi.pw.sublist (List.Sublist.append (List.Sublist.refl _) (List.sublist_cons_self _ _))
  selfE := fun i hm => hi.selfE i (by rcases List.mem_append.1 hm with h | h <;> simp [h])
  closed := fun i j he hl => by
    by_cases e : i = x
    · subst e; exact getD_set_true (edges_ready he hr)
    · rw [getD_set_ne false (Ne.symm e)] at hl
      exact getD_set_true (hi.closed i j he hl)
  lt := hi.lt

theorem Inv.ready {E : Nat → Nat → Prop} {ops : Array Oper} {a : Nat} {L : List Nat} {listed : Array Bool} (hi : Inv P E ops (a :: L) listed) : a ∈ Region.ready .any ops listed := by
  have ha := (hi.mem a).1 (by simp)
  rw [mem_ready]
  refine ⟨ha, ?_⟩
  have hlt : a < ops.size := by
    rw [← hi.size]
    rcases Nat.lt_or_ge a listed.size with h2 | h2
    · exact h2
    · rw [Array.getD_eq_getD_getElem?, Array.getElem?_eq_none h2] at ha; cases ha
  refine ⟨ops[a], Array.getElem?_eq_getElem hlt, fun e he hb => ?_⟩
  have hed : edges ops a e.on = true := by
    unfold edges
    rw [Array.getElem?_toList, Array.getElem?_eq_getElem hlt]
    simp only [List.any_eq_true, Bool.and_eq_true]
    exact ⟨e, by simpa using he, hb, by simp⟩
  have hlt2 := hi.lt a e.on hed
  rw [← hi.size] at hlt2
  rw [← getD_lt hlt2]
  cases h3 : listed.getD e.on true with
  | true => rfl
  | false =>
    have h4 := (hi.mem e.on).2 h3
    rcases List.mem_cons.1 h4 with h5 | h5
    · have := hi.selfE a (by simp); rw [← h5] at this; rw [h5] at hed this; rw [hed] at this; cases this
    · have := (List.pairwise_cons.1 hi.pw).1 e.on h5
      rw [hed] at this; cases this.2

theorem SOps.any {ops : Array Oper} {K : List Value → View → Hp → Prop} {Q : Exit → Act → World → Prop} (hsel : Region.noSelect ops = true) : ∀ (n : Nat) (L : List Nat) (listed : Array Bool) (s : List Value) (h : View) (O : Hp) (a : Act) (w : World),
    L.length = n → Inv P (fun _ _ => False) ops L listed → SOps P ops K L s h O → a.tmps = ⟨s⟩ → a.defers = [] → Val h O w →
    (∀ s' h' O' a' w', a'.tmps = ⟨s'⟩ → a'.defers = [] → Step h O w h' O' w' → K s' h' O' → Q .normal a' w') → wpAny P .any ops Q n listed a w := by
  intro n
  induction n with
  | zero =>
    intro L listed s h O a w hl hi hk ha hd hv hq
    have : L = [] := List.eq_nil_of_length_eq_zero hl
    subst this
    refine ⟨?_, hq s h O a w ha hd (Step.refl hv) hk⟩
    rw [List.eq_nil_iff_forall_not_mem]
    intro j hj
    have := (hi.mem j).2 (mem_ready.1 hj).1
    cases this
  | succ n ih =>
    intro L listed s h O a w hl hi hk ha hd hv hq
    refine ⟨fun he => ?_, fun x hx => ?_⟩
    · cases L with
      | nil => simp at hl
      | cons y L => have := hi.ready; rw [he] at this; cases this
    · have hm := (hi.mem x).2 (mem_ready.1 hx).1
      obtain ⟨A, B, rfl⟩ := List.append_of_mem hm
      have hc : ∀ y ∈ A, comm2 P ops y x = true := by
        intro y hy
        have h1 := (List.pairwise_append.1 hi.pw).2.2 y hy x (by simp)
        rcases h1.1 with e | e | e | e
        · have hn := hi.nodup
          rw [List.nodup_append] at hn
          exact absurd e.symm (hn.2.2 y hy x (by simp))
        · exact e
        · exact absurd hx (e listed hi.size hi.closed ((hi.mem y).1 (by simp [hy])))
        · exact e.elim
      obtain ⟨o, ho, hk⟩ := SOps.front hsel A B s h O ⟨w, hv⟩ hc hk
      refine hk.wpOp ho ha hv fun v h' O' w' st k => ?_
      exact ih (A ++ B) _ _ h' O' _ w' (by simp at hl ⊢; omega) (hi.step hx) k (put_tmps ha _ _) (by rw [put_defers]; exact hd) st.val
        fun s2 h2 O2 a2 w2 e1 e2 st2 k2 => hq s2 h2 O2 a2 w2 e1 e2 (st.trans st2) k2

theorem Inv.start {ops : Array Oper} {L : List Nat} (h : drawOk P ops L = true) : Inv P (fun _ _ => False) ops L (Array.replicate ops.size false) ∧ L.length = ops.size ∧ Region.noSelect ops = true := by
  unfold drawOk at h
  simp only [Bool.and_eq_true] at h
  obtain ⟨⟨⟨⟨⟨⟨h1, h2⟩, h3⟩, h4⟩, h5⟩, h6⟩, h7⟩ := h
  have hlen := Nat.eq_of_beq_eq_true h2
  have hin : ∀ i, i < ops.size → i ∈ L := by
    intro i hi
    have := List.all_eq_true.1 h4 i (List.mem_range.2 hi)
    obtain ⟨b, hb, e⟩ := List.any_eq_true.1 this
    rw [Nat.eq_of_beq_eq_true e]; exact hb
  have hlt : ∀ i ∈ L, i < ops.size ∧ edges ops i i = false := by
    intro i hi
    have := List.all_eq_true.1 h3 i hi
    simp only [Bool.and_eq_true] at this
    exact ⟨Nat.le_of_ble_eq_true this.1, by simpa using this.2⟩
  have hnd : L.Nodup := noRep_nodup L h7
  refine ⟨⟨by simp, fun i => ?_, hnd, (pairs_of L h1).imp fun ⟨u, v⟩ => ⟨u.elim .inl fun u => .inr (u.elim .inl fun u => .inr (.inl u)), v⟩, fun i hi => (hlt i hi).2, fun i j _ hl => ?_, fun i j he => ?_⟩, hlen, h6⟩
  · constructor
    · intro hi; simp [Array.getD_eq_getD_getElem?, (hlt i hi).1]
    · intro hi
      refine hin i ?_
      rcases Nat.lt_or_ge i ops.size with h7 | h7
      · exact h7
      · rw [Array.getD_eq_getD_getElem?, Array.getElem?_eq_none (by simpa using h7)] at hi; cases hi
  · exfalso
    simp only [Array.getD_eq_getD_getElem?, Array.getElem?_replicate] at hl
    split at hl <;> simp at hl
  · unfold edges at he
    rw [Array.getElem?_toList] at he
    cases ho : ops[i]? with
    | none => rw [ho] at he; cases he
    | some o =>
      rw [ho] at he
      simp only [List.any_eq_true, Bool.and_eq_true] at he
      obtain ⟨e, hm, hb, hj⟩ := he
      have := List.all_eq_true.1 (List.all_eq_true.1 h5 o (by simpa using Array.mem_of_getElem? ho)) e hm
      rw [hb] at this
      simp only [Bool.not_true, Bool.false_or] at this
      rw [← Nat.eq_of_beq_eq_true hj]
      exact Nat.le_of_ble_eq_true this

theorem Val.drawn {h : View} {O : Hp} {w : World} (hv : Val h O w) (n : Nat) : Step h O w h O { w with drawn := n } :=
  ⟨rfl, rfl, rfl, fun _ _ e => e, ⟨hv.per, hv.own, hv.nodup, hv.apart⟩, Nat.le_refl _, fun _ _ _ => rfl, fun _ e => .inl e, fun b o e => .inr ⟨o, e⟩⟩

theorem DrawSt.walk {ops : Array Oper} {s : List Value} {h : View} {O : Hp} {K : List Value → View → Hp → Prop} (L : List Nat) (hm : P.follows .mixedOrders = true) (hL : drawOk P ops L = true)
    (hk : opsG P ops.toList L s h O K) : DrawSt P ops s h O K := by
  refine .mk fun id Q a w ha hd hv hq => wp_region_any hm ?_
  obtain ⟨hi, hlen, hsel⟩ := Inv.start hL
  have st := hv.drawn (w.drawn + 1)
  exact SOps.any hsel ops.size L _ s h O a _ hlen hi (SOps.of_opsG L s h O hk) ha hd st.val fun s2 h2 O2 a2 w2 e1 e2 st2 k2 => hq s2 h2 O2 a2 w2 e1 e2 (st.trans st2) k2

/-! ## two that do not commute -/
theorem SOps.mono {ops : Array Oper} {K K' : List Value → View → Hp → Prop} (hm : ∀ s h O, K s h O → K' s h O) : ∀ (L : List Nat) (s : List Value) (h : View) (O : Hp), SOps P ops K L s h O → SOps P ops K' L s h O
  | [], s, h, O, hk => hm s h O hk
  | i :: r, s, h, O, hk => by
    obtain ⟨o, ho, hk⟩ := hk
    exact ⟨o, ho, hk.mono fun s h O k => SOps.mono hm r s h O k⟩
theorem SOps.app {ops : Array Oper} {K : List Value → View → Hp → Prop} (B : List Nat) : ∀ (A : List Nat) (s : List Value) (h : View) (O : Hp), SOps P ops (SOps P ops K B) A s h O → SOps P ops K (A ++ B) s h O
  | [], s, h, O, hk => hk
  | i :: r, s, h, O, hk => by
    obtain ⟨o, ho, hk⟩ := hk
    exact ⟨o, ho, hk.mono fun s h O k => SOps.app B r s h O k⟩
theorem Inv.none {E : Nat → Nat → Prop} {ops : Array Oper} {L : List Nat} {listed : Array Bool} (hi : Inv P E ops L listed) (hE : ∀ a ∈ L, ∀ x ∈ L, ¬ E a x) : Inv P (fun _ _ => False) ops L listed :=
  ⟨hi.size, hi.mem, hi.nodup, hi.pw.imp_of_mem fun ha hx ⟨u, v⟩ => ⟨u.elim .inl fun u => .inr (u.elim .inl fun u => .inr (u.elim .inl fun u => absurd u (hE _ ha _ hx))), v⟩, hi.selfE, hi.closed, hi.lt⟩
def Two (P : Program) (ops : Array Oper) (K : List Value → View → Hp → Prop) (a b : Nat) (B : List Nat) : List Value → View → Hp → Prop :=
  fun s h O => SOps P ops K (a :: b :: B) s h O ∧ SOps P ops K (b :: a :: B) s h O
theorem SOps.any2 {ops : Array Oper} {K : List Value → View → Hp → Prop} {Q : Exit → Act → World → Prop} (hsel : Region.noSelect ops = true) {p q : Nat} {B : List Nat} (hB : ∀ x ∈ B, Blk ops p x) : ∀ (n : Nat) (A : List Nat) (listed : Array Bool) (s : List Value) (h : View) (O : Hp) (a : Act) (w : World),
    (A ++ p :: q :: B).length = n → Inv P (fun u v => u = p ∧ v = q) ops (A ++ p :: q :: B) listed → SOps P ops (Two P ops K p q B) A s h O → a.tmps = ⟨s⟩ → a.defers = [] → Val h O w →
    (∀ s' h' O' a' w', a'.tmps = ⟨s'⟩ → a'.defers = [] → Step h O w h' O' w' → K s' h' O' → Q .normal a' w') → wpAny P .any ops Q n listed a w := by
  intro n
  induction n with
  | zero =>
    intro A listed s h O a w hl
    simp at hl
  | succ n ih =>
    intro A listed s h O a w hl hi hk ha hd hv hq
    have hn := hi.nodup
    refine ⟨fun he => ?_, fun x hx => ?_⟩
    · cases A with
      | nil => have := hi.ready; rw [he] at this; cases this
      | cons y L => have := Inv.ready (L := L ++ p :: q :: B) hi; rw [he] at this; cases this
    · have hm := (hi.mem x).2 (mem_ready.1 hx).1
      have pre : ∀ (A1 C : List Nat), A ++ p :: q :: B = A1 ++ x :: C → (∀ y ∈ A1, ¬ (y = p ∧ x = q)) → ∀ y ∈ A1, comm2 P ops y x = true := by
        intro A1 C e hne y hy
        have hpw := hi.pw
        have hnn := hi.nodup
        rw [e] at hpw hnn
        have h1 := (List.pairwise_append.1 hpw).2.2 y hy x (by simp)
        rcases h1.1 with e1 | e1 | e1 | e1
        · rw [List.nodup_append] at hnn
          exact absurd e1.symm (hnn.2.2 y hy x (by simp))
        · exact e1
        · exact absurd hx (e1 listed hi.size hi.closed ((hi.mem y).1 (by rw [e]; simp [hy])))
        · exact absurd e1 (hne y hy)
      have nA : p ∉ A ∧ q ∉ A ∧ p ≠ q ∧ p ∉ B := by
        rw [List.nodup_append, List.nodup_cons] at hn
        refine ⟨fun hp => hn.2.2 p hp p (by simp) rfl, fun hq' => hn.2.2 q hq' q (by simp) rfl, fun e => hn.2.1.1 (by simp [e]), fun e => hn.2.1.1 (by simp [e])⟩
      rcases List.mem_append.1 hm with h1 | h1
      · -- one ahead of the two
        obtain ⟨A1, A2, rfl⟩ := List.append_of_mem h1
        have hc := pre A1 (A2 ++ p :: q :: B) (by simp) fun y hy ⟨e, _⟩ => nA.1 (by rw [← e]; simp [hy])
        obtain ⟨o, ho, hk⟩ := SOps.front hsel A1 A2 s h O ⟨w, hv⟩ hc hk
        refine hk.wpOp ho ha hv fun v h' O' w' st k => ?_
        have hi2 : Inv P (fun u v => u = p ∧ v = q) ops (A1 ++ x :: (A2 ++ p :: q :: B)) listed := by simpa using hi
        exact ih (A1 ++ A2) _ _ h' O' _ w' (by simp at hl ⊢; omega) (by simpa using hi2.step hx) k (put_tmps ha _ _) (by rw [put_defers]; exact hd) st.val
          fun s2 h2 O2 a2 w2 e1 e2 st2 k2 => hq s2 h2 O2 a2 w2 e1 e2 (st.trans st2) k2
      · rcases List.mem_cons.1 h1 with rfl | h1
        · -- the one
          have hk1 := SOps.app _ A s h O (SOps.mono (fun s h O k => k.1) A s h O hk)
          have hc := pre A (q :: B) rfl fun y hy ⟨e, _⟩ => nA.1 (by rw [← e]; exact hy)
          obtain ⟨o, ho, hk⟩ := SOps.front hsel A (q :: B) s h O ⟨w, hv⟩ hc hk1
          refine hk.wpOp ho ha hv fun v h' O' w' st k => ?_
          refine SOps.any hsel n (A ++ q :: B) _ _ h' O' _ w' (by simp at hl ⊢; omega) ((hi.step hx).none fun u hu v _ ⟨e, _⟩ => ?_) k (put_tmps ha _ _) (by rw [put_defers]; exact hd) st.val
            fun s2 h2 O2 a2 w2 e1 e2 st2 k2 => hq s2 h2 O2 a2 w2 e1 e2 (st.trans st2) k2
          rw [e] at hu
          rcases List.mem_append.1 hu with h2 | h2
          · exact nA.1 h2
          · rcases List.mem_cons.1 h2 with h2 | h2
            · exact nA.2.2.1 h2
            · exact nA.2.2.2 h2
        · rcases List.mem_cons.1 h1 with rfl | h1
          · -- the other
            have hk1 := SOps.app _ A s h O (SOps.mono (fun s h O k => k.2) A s h O hk)
            have hc : ∀ y ∈ A, comm2 P ops y x = true := fun y hy => by
              have hpw := hi.pw
              have h1 := (List.pairwise_append.1 hpw).2.2 y hy x (by simp)
              rcases h1.1 with e1 | e1 | e1 | e1
              · exact absurd (e1 ▸ hy) nA.2.1
              · exact e1
              · exact absurd hx (e1 listed hi.size hi.closed ((hi.mem y).1 (by simp [hy])))
              · exact absurd (e1.1 ▸ hy) nA.1
            obtain ⟨o, ho, hk⟩ := SOps.front hsel A (p :: B) s h O ⟨w, hv⟩ hc hk1
            refine hk.wpOp ho ha hv fun v h' O' w' st k => ?_
            have hi2 : Inv P (fun u v => u = p ∧ v = x) ops ((A ++ [p]) ++ x :: B) listed := by simpa using hi
            have hi3 : Inv P (fun u v => u = p ∧ v = x) ops (A ++ p :: B) (listed.setIfInBounds x true) := by simpa using hi2.step hx
            refine SOps.any hsel n (A ++ p :: B) _ _ h' O' _ w' (by simp at hl ⊢; omega) (hi3.none fun u _ v hv ⟨_, e⟩ => ?_) k (put_tmps ha _ _) (by rw [put_defers]; exact hd) st.val
              fun s2 h2 O2 a2 w2 e1 e2 st2 k2 => hq s2 h2 O2 a2 w2 e1 e2 (st.trans st2) k2
            have hnn := hi2.nodup
            rw [e] at hv
            rw [List.nodup_append, List.nodup_cons] at hnn
            rcases List.mem_append.1 hv with h2 | h2
            · exact nA.2.1 h2
            · rcases List.mem_cons.1 h2 with h2 | h2
              · exact nA.2.2.1 h2.symm
              · exact hnn.2.1.1 h2
          · exact absurd hx (hB x h1 listed hi.size hi.closed ((hi.mem p).1 (by simp)))
def pairsOkE (P : Program) (ops : Array Oper) (p q : Nat) : List Nat → Bool
  | [] => true
  | a :: r => (let B := hang ops [a] r; r.all fun x => (comm2 P ops a x || B.any (Nat.beq x) || (Nat.beq a p && Nat.beq x q)) && !edges ops a x) && pairsOkE P ops p q r
theorem pairs_ofE {ops : Array Oper} {p q : Nat} : ∀ L : List Nat, pairsOkE P ops p q L = true → L.Pairwise fun a x => (x = a ∨ comm2 P ops a x = true ∨ Blk ops a x ∨ (a = p ∧ x = q)) ∧ edges ops a x = false
  | [], _ => .nil
  | a :: r, h => by
    simp only [pairsOkE, Bool.and_eq_true, List.all_eq_true] at h
    refine .cons (fun x hx => ?_) (pairs_ofE r h.2)
    obtain ⟨h1, h2⟩ := h.1 x hx
    refine ⟨?_, by simpa using h2⟩
    by_cases e : x = a
    · exact .inl e
    · rcases Bool.or_eq_true _ _ ▸ h1 with h3 | h3
      · rcases Bool.or_eq_true _ _ ▸ h3 with h3 | h3
        · exact .inr (.inl h3)
        · obtain ⟨b, hb, he⟩ := List.any_eq_true.1 h3
          rw [← Nat.eq_of_beq_eq_true he] at hb
          exact .inr (.inr (.inl (blk_of hb e)))
      · simp only [Bool.and_eq_true] at h3
        exact .inr (.inr (.inr ⟨Nat.eq_of_beq_eq_true h3.1, Nat.eq_of_beq_eq_true h3.2⟩))
def drawOk2 (P : Program) (ops : Array Oper) (A : List Nat) (p q : Nat) (B : List Nat) : Bool :=
  let L := A ++ p :: q :: B
  pairsOkE P ops p q L && Nat.beq L.length ops.size && L.all (fun i => Nat.blt i ops.size && !edges ops i i) && (List.range ops.size).all (fun i => L.any (Nat.beq i)) &&
    ops.toList.all (fun o => o.after.toList.all fun e => !Region.binds .any e || Nat.blt e.on ops.size) && Region.noSelect ops && noRep L && B.all fun x => (hang ops [p] (q :: B)).any (Nat.beq x) && !Nat.beq x p
theorem Inv.start2 {ops : Array Oper} {A B : List Nat} {p q : Nat} (h : drawOk2 P ops A p q B = true) : Inv P (fun u v => u = p ∧ v = q) ops (A ++ p :: q :: B) (Array.replicate ops.size false) ∧ (A ++ p :: q :: B).length = ops.size ∧ Region.noSelect ops = true ∧ ∀ x ∈ B, Blk ops p x := by
  unfold drawOk2 at h
  simp only at h
  simp only [Bool.and_eq_true] at h
  obtain ⟨⟨⟨⟨⟨⟨⟨h1, h2⟩, h3⟩, h4⟩, h5⟩, h6⟩, h7⟩, h8⟩ := h
  have hlen := Nat.eq_of_beq_eq_true h2
  have hin : ∀ i, i < ops.size → i ∈ A ++ p :: q :: B := by
    intro i hi
    have := List.all_eq_true.1 h4 i (List.mem_range.2 hi)
    obtain ⟨b, hb, e⟩ := List.any_eq_true.1 this
    rw [Nat.eq_of_beq_eq_true e]; exact hb
  have hlt : ∀ i ∈ A ++ p :: q :: B, i < ops.size ∧ edges ops i i = false := by
    intro i hi
    have := List.all_eq_true.1 h3 i hi
    simp only [Bool.and_eq_true] at this
    exact ⟨Nat.le_of_ble_eq_true this.1, by simpa using this.2⟩
  have hnd : (A ++ p :: q :: B).Nodup := noRep_nodup _ h7
  refine ⟨⟨by simp, fun i => ?_, hnd, pairs_ofE _ h1, fun i hi => (hlt i hi).2, fun i j _ hl => ?_, fun i j he => ?_⟩, hlen, h6, fun x hx => ?_⟩
  · constructor
    · intro hi; simp [Array.getD_eq_getD_getElem?, (hlt i hi).1]
    · intro hi
      refine hin i ?_
      rcases Nat.lt_or_ge i ops.size with h7 | h7
      · exact h7
      · rw [Array.getD_eq_getD_getElem?, Array.getElem?_eq_none (by simpa using h7)] at hi; cases hi
  · exfalso
    simp only [Array.getD_eq_getD_getElem?, Array.getElem?_replicate] at hl
    split at hl <;> simp at hl
  · unfold edges at he
    rw [Array.getElem?_toList] at he
    cases ho : ops[i]? with
    | none => rw [ho] at he; cases he
    | some o =>
      rw [ho] at he
      simp only [List.any_eq_true, Bool.and_eq_true] at he
      obtain ⟨e, hm, hb, hj⟩ := he
      have := List.all_eq_true.1 (List.all_eq_true.1 h5 o (by simpa using Array.mem_of_getElem? ho)) e hm
      rw [hb] at this
      simp only [Bool.not_true, Bool.false_or] at this
      rw [← Nat.eq_of_beq_eq_true hj]
      exact Nat.le_of_ble_eq_true this
  · have := List.all_eq_true.1 h8 x hx
    simp only [Bool.and_eq_true] at this
    obtain ⟨b, hb, he⟩ := List.any_eq_true.1 this.1
    rw [← Nat.eq_of_beq_eq_true he] at hb
    exact blk_of hb (fun e => by have h9 := this.2; rw [e] at h9; simp at h9)
theorem DrawSt.walk2 {ops : Array Oper} {s : List Value} {h : View} {O : Hp} {K : List Value → View → Hp → Prop} (A : List Nat) (p q : Nat) (B : List Nat) (hm : P.follows .mixedOrders = true) (hL : drawOk2 P ops A p q B = true)
    (hk : opsG P ops.toList A s h O fun s h O => opsG P ops.toList (p :: q :: B) s h O K ∧ opsG P ops.toList (q :: p :: B) s h O K) : DrawSt P ops s h O K := by
  refine .mk fun id Q a w ha hd hv hq => wp_region_any hm ?_
  obtain ⟨hi, hlen, hsel, hB⟩ := Inv.start2 hL
  have st := hv.drawn (w.drawn + 1)
  refine SOps.any2 (K := K) hsel hB ops.size A _ s h O a _ hlen hi (SOps.mono (fun s h O k => ⟨SOps.of_opsG _ s h O k.1, SOps.of_opsG _ s h O k.2⟩) A s h O (SOps.of_opsG A s h O hk)) ha hd st.val fun s2 h2 O2 a2 w2 e1 e2 st2 k2 => hq s2 h2 O2 a2 w2 e1 e2 (st.trans st2) k2
end Gv
end Go
/- Rules: how each stop of a walk is passed. -/
namespace Go
namespace Gv
variable {P : Program}

theorem NW.i64 {n : Int} {K : Value → Prop} (h : -9223372036854775808 ≤ n ∧ n ≤ 9223372036854775807) (hk : K (.int .i64 n)) : NW .i64 n K := ⟨by rw [IntWalk.i64_in n h]; exact hk⟩
theorem NW.u8 {n : Int} {K : Value → Prop} (h : 0 ≤ n ∧ n ≤ 255) (hk : K (.int .u8 n)) : NW .u8 n K := ⟨by rw [IntWalk.u8_in n h]; exact hk⟩
theorem NW.u64 {n : Int} {K : Value → Prop} (h : 0 ≤ n ∧ n ≤ 18446744073709551615) (hk : K (.int .u64 n)) : NW .u64 n K := ⟨by rw [IntWalk.u64_in n h]; exact hk⟩
theorem NW.u32 {n : Int} {K : Value → Prop} (h : 0 ≤ n ∧ n ≤ 4294967295) (hk : K (.int .u32 n)) : NW .u32 n K := ⟨by rw [IntWalk.u32_in n h]; exact hk⟩
theorem NW.i32 {n : Int} {K : Value → Prop} (h : -2147483648 ≤ n ∧ n ≤ 2147483647) (hk : K (.int .i32 n)) : NW .i32 n K := ⟨by rw [IntWalk.i32_in n h]; exact hk⟩
theorem NW.u8w {n : Int} {K : Value → Prop} (hk : K (.int .u8 (n % 256))) : NW .u8 n K := ⟨by rw [IntKind.wrap_u8]; exact hk⟩
theorem NW.u64w {n : Int} {K : Value → Prop} (hk : K (.int .u64 (IntKind.u64.wrap n))) : NW .u64 n K := ⟨hk⟩
theorem Cmp.yes {p : Prop} {K : Value → Prop} (h : p) (hk : K (.bool true)) : Cmp p K := ⟨fun _ => hk, fun n => absurd h n⟩
theorem Cmp.no {p : Prop} {K : Value → Prop} (h : ¬ p) (hk : K (.bool false)) : Cmp p K := ⟨fun y => absurd y h, fun _ => hk⟩
theorem OnBB.tt {K : Bool → Prop} (hk : K true) : OnBB true K := ⟨fun _ => hk, fun h => (by cases h)⟩
theorem OnBB.ff {K : Bool → Prop} (hk : K false) : OnBB false K := ⟨fun h => (by cases h), fun _ => hk⟩
theorem OnBB.yes {b : Bool} {K : Bool → Prop} (h : b = true) (hk : K true) : OnBB b K := ⟨fun _ => hk, fun e => by rw [h] at e; cases e⟩
theorem OnBB.no {b : Bool} {K : Bool → Prop} (h : b = false) (hk : K false) : OnBB b K := ⟨fun e => (by rw [h] at e; cases e), fun _ => hk⟩

theorem OnBB.decY {p : Prop} [Decidable p] {K : Bool → Prop} (h : p) (hk : K true) : OnBB (decide p) K := .yes (decide_eq_true h) hk
theorem OnBB.decN {p : Prop} [Decidable p] {K : Bool → Prop} (h : ¬ p) (hk : K false) : OnBB (decide p) K := .no (decide_eq_false h) hk
theorem OnBB.dec {p : Prop} [Decidable p] {K : Bool → Prop} (h1 : p → K true) (h2 : ¬ p → K false) : OnBB (decide p) K := ⟨fun h => h1 (of_decide_eq_true h), fun h => h2 (of_decide_eq_false h)⟩
theorem ofInt_nat {w : Nat} {a : Int} (h : 0 ≤ a) : BitVec.ofInt w a = BitVec.ofNat w a.toNat := by
  obtain ⟨n, rfl⟩ := Int.eq_ofNat_of_zero_le h; simp
theorem natOp_lt {op : BinOp} {a b n : Nat} (ha : a < 2 ^ n) (hb : b < 2 ^ n) : natOp op a b < 2 ^ n := by
  cases op <;> first
    | exact Nat.and_lt_two_pow _ hb
    | exact Nat.or_lt_two_pow ha hb
    | exact Nat.xor_lt_two_pow ha hb
    | exact Nat.two_pow_pos n
theorem bits_run {op : BinOp} {k : IntKind} {a b : Int} {m : Nat} (hm : m ≤ k.bits) (ho : op = .and ∨ op = .or ∨ op = .xor) (ha : 0 ≤ a) (ha2 : a.toNat < 2 ^ m) (hb : 0 ≤ b) (hb2 : b.toNat < 2 ^ m)
    (hw : ∀ n : Nat, n < 2 ^ m → k.wrap n = n) (w : World) : (Op.intBits op k a b).run P w = .ok (.int k (natOp op a.toNat b.toNat : Nat)) w := by
  have hle : 2 ^ m ≤ 2 ^ k.bits := Nat.pow_le_pow_right (by omega) hm
  have e1 : a.toNat % 2 ^ k.bits = a.toNat := Nat.mod_eq_of_lt (by omega)
  have e2 : b.toNat % 2 ^ k.bits = b.toNat := Nat.mod_eq_of_lt (by omega)
  have h3 := natOp_lt (op := op) ha2 hb2
  rcases ho with rfl | rfl | rfl <;> simp only [Op.intBits, Sem.run_pure, ofInt_nat ha, ofInt_nat hb, BitVec.toNat_and, BitVec.toNat_or, BitVec.toNat_xor, BitVec.toNat_ofNat, e1, e2, natOp] at h3 ⊢ <;> rw [hw _ h3]
theorem Bits.i64 {op : BinOp} {a b : Int} {K : Value → Prop} (ho : op = .and ∨ op = .or ∨ op = .xor) (h : 0 ≤ a ∧ a ≤ 9223372036854775807 ∧ 0 ≤ b ∧ b ≤ 9223372036854775807)
    (hk : K (.int .i64 (natOp op a.toNat b.toNat : Nat))) : Bits op .i64 a b K :=
  ⟨_, fun _ w => bits_run (m := 63) (by decide) ho h.1 (by omega) h.2.2.1 (by omega) (fun n hn => IntWalk.i64_in _ (by omega)) w, hk⟩
theorem Bits.u64 {op : BinOp} {a b : Int} {K : Value → Prop} (ho : op = .and ∨ op = .or ∨ op = .xor) (h : 0 ≤ a ∧ a ≤ 18446744073709551615 ∧ 0 ≤ b ∧ b ≤ 18446744073709551615)
    (hk : K (.int .u64 (natOp op a.toNat b.toNat : Nat))) : Bits op .u64 a b K :=
  ⟨_, fun _ w => bits_run (m := 64) (by decide) ho h.1 (by omega) h.2.2.1 (by omega) (fun n hn => IntWalk.u64_in _ (by omega)) w, hk⟩
theorem Bits.u8 {op : BinOp} {a b : Int} {K : Value → Prop} (ho : op = .and ∨ op = .or ∨ op = .xor) (h : 0 ≤ a ∧ a ≤ 255 ∧ 0 ≤ b ∧ b ≤ 255)
    (hk : K (.int .u8 (natOp op a.toNat b.toNat : Nat))) : Bits op .u8 a b K :=
  ⟨_, fun _ w => bits_run (m := 8) (by decide) ho h.1 (by omega) h.2.2.1 (by omega) (fun n hn => IntWalk.u8_in _ (by omega)) w, hk⟩
theorem Bits.u32 {op : BinOp} {a b : Int} {K : Value → Prop} (ho : op = .and ∨ op = .or ∨ op = .xor) (h : 0 ≤ a ∧ a ≤ 4294967295 ∧ 0 ≤ b ∧ b ≤ 4294967295)
    (hk : K (.int .u32 (natOp op a.toNat b.toNat : Nat))) : Bits op .u32 a b K :=
  ⟨_, fun _ w => bits_run (m := 32) (by decide) ho h.1 (by omega) h.2.2.1 (by omega) (fun n hn => IntWalk.u32_in _ (by omega)) w, hk⟩

theorem DivSt.quo {a b : Int} {K : Value → Prop} (h : 0 ≤ a ∧ a ≤ 9223372036854775807 ∧ 1 ≤ b) (hk : K (.int .i64 (a / b))) : DivSt .quo .i64 a b K :=
  ⟨by omega, by rw [IntWalk.i64_quo a b h]; exact hk⟩
theorem DivSt.rem {k : IntKind} {a b : Int} {K : Value → Prop} (h : 0 ≤ a ∧ 1 ≤ b) (hk : K (.int k (a % b))) : DivSt .rem k a b K :=
  ⟨by omega, by rw [IntWalk.rem_in a b h.1]; exact hk⟩
theorem ShSt.shl {a : Int} {b : Int} (n : Nat) {K : Value → Prop} (hb : b = n) (hn : n < 64) (h : -9223372036854775808 ≤ a * 2 ^ n ∧ a * 2 ^ n ≤ 9223372036854775807) (hk : K (.int .i64 (a * 2 ^ n))) : ShSt .shl .i64 a b K := by
  subst hb
  refine ⟨by omega, ?_⟩
  have : min (n : Int).toNat IntKind.i64.bits = n := by simp [IntKind.bits]; omega
  simp only [this, IntWalk.i64_in _ h]; exact hk
theorem ShSt.shr {k : IntKind} {a : Int} {b : Int} (n : Nat) {K : Value → Prop} (hb : b = n) (hn : n < k.bits) (hk : K (.int k (a / 2 ^ n))) : ShSt .shr k a b K := by
  subst hb
  refine ⟨by omega, ?_⟩
  have : min (n : Int).toNat k.bits = n := by simp; omega
  have h2 : a.fdiv (2 ^ n) = a / 2 ^ n := by
    rw [Int.fdiv_eq_ediv_of_nonneg]; exact Int.le_of_lt (Int.pow_pos (by decide))
  simp only [this, h2]; exact hk

/-! ### memory -/
def takeK : List Value → Nat → Nat → (List Value → Prop) → Prop
  | _, _, 0, K => K []
  | [], _, _ + 1, _ => False
  | v :: l, 0, n + 1, K => takeK l 0 n fun r => K (v :: r)
  | _ :: l, m + 1, n + 1, K => takeK l m (n + 1) K
theorem takeK_run {l : List Value} {off n : Nat} {K : List Value → Prop} (h : takeK l off n K) : ∃ cs, K cs ∧ cs.length = n ∧ ∀ j v, cs[j]? = some v → l[off + j]? = some v := by
  induction l generalizing off n K with
  | nil =>
    cases n with
    | zero => exact ⟨[], by cases off <;> exact h, rfl, by simp⟩
    | succ n => cases off <;> exact h.elim
  | cons x l ih =>
    cases n with
    | zero => exact ⟨[], by cases off <;> exact h, rfl, by simp⟩
    | succ n =>
      cases off with
      | zero =>
        obtain ⟨cs, hk, hl, hg⟩ := ih h
        refine ⟨x :: cs, hk, by simp [hl], fun j v hj => ?_⟩
        cases j with
        | zero => simpa using hj
        | succ j => have := hg j v (by simpa using hj); simpa using this
      | succ m =>
        obtain ⟨cs, hk, hl, hg⟩ := ih h
        refine ⟨cs, hk, hl, fun j v hj => ?_⟩
        have := hg j v hj
        rw [show m + 1 + j = (m + j) + 1 from by omega]; simpa using this
theorem LoadSt.box {h : View} {O : Hp} {b off : Nat} {l : List Value} {ty : TypeId} {fr : Nat × Nat} {K : Value → Prop} (m : (b, Obj.cells ⟨l⟩ ty fr) ∈ O) (hk : nthK l off K) : LoadSt h O b off none K := by
  obtain ⟨c, hc, hk⟩ := nthK_some hk
  exact .one K _ (.own m) c (by simpa [objCell] using hc) hk
theorem LoadSt.boxAgg {h : View} {O : Hp} {b off n : Nat} {l : List Value} {ty : TypeId} {fr : Nat × Nat} {K : Value → Prop} (m : (b, Obj.cells ⟨l⟩ ty fr) ∈ O) (hk : takeK l off n fun cs => K (.agg ⟨cs⟩)) : LoadSt h O b off (some n) K := by
  obtain ⟨cs, hk, hl, hg⟩ := takeK_run hk
  exact .agg K n _ (.own m) cs hl (fun j v hj => by simpa [objCell] using hg j v hj) hk
theorem LoadSt.own {h : View} {O : Hp} {b off : Nat} {l : List Value} {ty : TypeId} {fr : Nat × Nat} {c : Value} {K : Value → Prop} (m : (b, Obj.cells ⟨l⟩ ty fr) ∈ O) (hc : l[off]? = some c) (hk : K c) : LoadSt h O b off none K :=
  .one K _ (.own m) c (by simpa [objCell] using hc) hk
theorem LoadSt.per {h : View} {O : Hp} {b off : Nat} {l : List Value} {ty : TypeId} {fr : Nat × Nat} {c : Value} {K : Value → Prop} (m : h b = some (Obj.cells ⟨l⟩ ty fr)) (hc : l[off]? = some c) (hk : K c) : LoadSt h O b off none K :=
  .one K _ (.per m) c (by simpa [objCell] using hc) hk
/-- An owned block, and the rest with a gap in its place. -/
inductive Upd : Hp → Nat → List Value → TypeId → Nat × Nat → (List Value → Hp) → Prop
  | hd {O : Hp} {b : Nat} {l : List Value} {ty : TypeId} {fr : Nat × Nat} : Upd ((b, .cells ⟨l⟩ ty fr) :: O) b l ty fr fun l' => (b, .cells ⟨l'⟩ ty fr) :: O
  | tl {O : Hp} {p : Nat × Obj} {b : Nat} {l : List Value} {ty : TypeId} {fr : Nat × Nat} {f : List Value → Hp} (h : Upd O b l ty fr f) : Upd (p :: O) b l ty fr fun l' => p :: f l'
  | app {O G : Hp} {b : Nat} {l : List Value} {ty : TypeId} {fr : Nat × Nat} {f : List Value → Hp} (h : Upd O b l ty fr f) : Upd (G ++ O) b l ty fr fun l' => G ++ f l'
theorem Upd.parts {O : Hp} {b : Nat} {l : List Value} {ty : TypeId} {fr : Nat × Nat} {f : List Value → Hp} (u : Upd O b l ty fr f) : ∃ O1 O2, O = O1 ++ (b, .cells ⟨l⟩ ty fr) :: O2 ∧ ∀ l', f l' = O1 ++ (b, .cells ⟨l'⟩ ty fr) :: O2 := by
  induction u with
  | hd => exact ⟨[], _, rfl, fun _ => rfl⟩
  | tl _ ih => obtain ⟨O1, O2, rfl, h⟩ := ih; exact ⟨_ :: O1, O2, rfl, fun l' => congrArg (List.cons _) (h l')⟩
  | @app O G _ _ _ _ _ _ ih => obtain ⟨O1, O2, rfl, h⟩ := ih; exact ⟨G ++ O1, O2, by simp, fun l' => by simp [h l']⟩
def frOk (fr : Nat × Nat) (off n : Nat) : Bool := Nat.ble fr.2 fr.1 || Nat.ble (off + n) fr.1
theorem frOk_spec {fr : Nat × Nat} {off n : Nat} (h : frOk fr off n = true) : ∀ j, j < n → ¬ (fr.1 ≤ off + j ∧ off + j < fr.2) := by
  intro j hj ⟨h1, h2⟩
  rcases Bool.or_eq_true _ _ ▸ h with h3 | h3
  · have := Nat.le_of_ble_eq_true h3; omega
  · have := Nat.le_of_ble_eq_true h3; omega
theorem all_one {vs : List Value} (h : vs.all (·.oneCell') = true) : ∀ v ∈ vs, v.oneCell' = true := fun v hv => List.all_eq_true.1 h v hv
theorem StoreSt.box {h : View} {O : Hp} {b off : Nat} {vs l : List Value} {ty : TypeId} {fr : Nat × Nat} {f : List Value → Hp} {K : View → Hp → Prop} (u : Upd O b l ty fr f)
    (hb : Nat.ble (off + vs.length) l.length = true) (hf : frOk fr off vs.length = true) (h1 : vs.all (·.oneCell') = true) (hk : setRangeK l off vs fun l' => K h (f l')) : StoreSt h O b off vs K := by
  obtain ⟨O1, O2, rfl, hf2⟩ := u.parts
  rw [setRangeK_eq, hf2] at hk
  exact .mk O1 O2 ⟨l⟩ ty fr rfl (by have := Nat.le_of_ble_eq_true hb; simpa using this) (frOk_spec hf) (all_one h1) hk
theorem StoreSt.own {h : View} {O : Hp} {b off : Nat} {vs l : List Value} {ty : TypeId} {fr : Nat × Nat} {f : List Value → Hp} {K : View → Hp → Prop} (u : Upd O b l ty fr f)
    (hb : off + vs.length ≤ l.length) (hf : fr.2 ≤ fr.1 ∨ off + vs.length ≤ fr.1) (h1 : vs.all (·.oneCell') = true) (hk : K h (f (setRange l off vs))) : StoreSt h O b off vs K := by
  obtain ⟨O1, O2, rfl, hf2⟩ := u.parts
  rw [hf2] at hk
  exact .mk O1 O2 ⟨l⟩ ty fr rfl (by simpa using hb) (fun j hj ⟨h1, h2⟩ => by rcases hf with h3 | h3 <;> omega) (all_one h1) hk

/-! ### calls, ends -/
theorem CallSt.val {f : FuncId} {args : List Value} {h : View} {O : Hp} {K : Value → View → Hp → Prop} {X : Value} (sp : GSpec P f args h [] fun v _ _ => v = X) (hk : K X h O) : CallSt P f args h O K :=
  .drop (· = X) sp fun v e => by rw [e]; exact hk
theorem CallG.val {f : FuncId} {args : List Value} {h : View} {O : Hp} {K : Value → View → Hp → Prop} {X : Value} (sp : GSpec P f args h [] fun v _ _ => v = X) (hk : K X h O) : CallG P f args h O K :=
  .drop (· = X) sp fun v e => by rw [e]; exact hk
theorem Wk.nil_r {h : View} {O : Hp} : Wk h O h (O ++ []) := by rw [List.append_nil]; exact Wk.refl _ _
theorem Wk.nil_l {h : View} {O : Hp} : Wk h (O ++ []) h O := by rw [List.append_nil]; exact Wk.refl _ _
theorem CallSt.rd {f : FuncId} {args : List Value} {h : View} {O : Hp} {K : Value → View → Hp → Prop} {X : Value} (sp : GSpec P f args h O (Ret O X)) (hk : K X h O) : CallSt P f args h O K :=
  .part O [] Wk.nil_r _ sp fun v O' ⟨e, hX⟩ => ⟨O, by rw [e]; exact Wk.nil_l, by rw [hX]; exact hk⟩
theorem CallSt.new {f : FuncId} {args : List Value} {h : View} {O : Hp} {K : Value → View → Hp → Prop} {R : Value → Hp → Prop} (sp : GSpec P f args h O (New O R)) (hk : ∀ v H, R v H → K v h (H ++ O)) : CallSt P f args h O K :=
  .part O [] Wk.nil_r _ sp fun v O' ⟨H, e, hR⟩ => ⟨H ++ O, by rw [e]; exact Wk.nil_l, hk v H hR⟩
theorem CallG.rd {f : FuncId} {args : List Value} {h : View} {O : Hp} {K : Value → View → Hp → Prop} {X : Value} (sp : GSpec P f args h O (Ret O X)) (hk : K X h O) : CallG P f args h O K := by
  refine .all (fun v H => v = X ∧ H = []) ?_ fun v H ⟨hX, e⟩ => by rw [hX, e]; exact hk
  exact ⟨sp.1, fun w hv => (sp.2 w hv).mono fun e w' ⟨v, h', O', he, st, h1, h2⟩ => ⟨v, h', O', he, st, [], h1, h2, rfl⟩⟩
theorem CallG.new {f : FuncId} {args : List Value} {h : View} {O : Hp} {K : Value → View → Hp → Prop} {R : Value → Hp → Prop} (sp : GSpec P f args h O (New O R)) (hk : ∀ v H, R v H → K v h (H ++ O)) : CallG P f args h O K := .all R sp hk
theorem GSpec.mono {f : FuncId} {args : List Value} {h : View} {O : Hp} {R R' : Value → View → Hp → Prop} (sp : GSpec P f args h O R) (hm : ∀ v h' O', R v h' O' → R' v h' O') : GSpec P f args h O R' :=
  ⟨sp.1, fun w hv => (sp.2 w hv).mono fun e w' ⟨v, h', O', he, st, h1⟩ => ⟨v, h', O', he, st, hm _ _ _ h1⟩⟩
theorem FinSt.ret {v X : Value} {h : View} {O O0 : Hp} (hs : O0.Sublist O) (e : v = X) : FinSt v h O (Ret O0 X) := .mk h O0 (Wk.drop hs) ⟨rfl, e⟩
theorem FinSt.new {v : Value} {h : View} {O O0 H : Hp} {R : Value → Hp → Prop} (hs : (H ++ O0).Sublist O) (e : R v H) : FinSt v h O (New O0 R) := .mk h (H ++ O0) (Wk.drop hs) ⟨H, rfl, e⟩
theorem FinSt.val {v X : Value} {h : View} {O : Hp} (e : v = X) : FinSt v h O fun u _ _ => u = X := .mk h O (Wk.refl _ _) e
theorem FinSt.pub {v : Value} {h : View} {O : Hp} {R : Value → View → Hp → Prop} (hR : R v (Gv.pub h O) []) : FinSt v h O R := .mk (Gv.pub h O) [] (by have := Wk.pub (h := h) (E := O) (O := []); rwa [List.append_nil] at this) hR

/-! ### loops -/
def look : List (Nat × Value) → Nat → Option Value
  | [], _ => none
  | (j, v) :: r, i => match Nat.beq j i with | true => some v | false => look r i
def memN : List Nat → Nat → Bool
  | [], _ => false
  | j :: r, i => match Nat.beq j i with | true => true | false => memN r i
/-- The slots at the head of a round: what lives, what is dead, what stays. -/
def overK (i : Nat) : List Value → List Nat → List (Nat × Value) → (Nat → Value) → (List Value → Prop) → Prop
  | [], _, _, _, K => K []
  | v :: r, W, lv, d, K => overK (i + 1) r W lv d fun r' => match look lv i with
    | some u => K (u :: r')
    | none => match memN W i with
      | true => K (d i :: r')
      | false => K (v :: r')
def over (i : Nat) : List Value → List Nat → List (Nat × Value) → (Nat → Value) → List Value
  | [], _, _, _ => []
  | v :: r, W, lv, d => (match look lv i with
    | some u => u
    | none => match memN W i with
      | true => d i
      | false => v) :: over (i + 1) r W lv d
theorem overK_eq (i : Nat) (s : List Value) (W : List Nat) (lv : List (Nat × Value)) (d : Nat → Value) (K : List Value → Prop) : overK i s W lv d K = K (over i s W lv d) := by
  induction s generalizing i K with
  | nil => rfl
  | cons v r ih =>
    simp only [overK, over, ih]
    split
    · rfl
    · split <;> rfl
/-- What stays, stays; what lives is as it is said. -/
def sameB (i : Nat) (W : List Nat) (lv : List (Nat × Value)) : List Value → List Value → Prop
  | [], [] => True
  | v :: r, u :: r' => match look lv i with
    | some x => u = x ∧ sameB (i + 1) W lv r r'
    | none => match memN W i with
      | true => sameB (i + 1) W lv r r'
      | false => u = v ∧ sameB (i + 1) W lv r r'
  | _, _ => False
theorem over_same {i : Nat} {W : List Nat} {lv : List (Nat × Value)} : ∀ (s s' : List Value), sameB i W lv s s' → ∃ d, s' = over i s W lv d := by
  intro s
  induction s generalizing i with
  | nil => intro s' h; cases s' with
    | nil => exact ⟨fun _ => undef, rfl⟩
    | cons _ _ => exact h.elim
  | cons v r ih =>
    intro s' h
    cases s' with
    | nil => exact h.elim
    | cons u r' =>
      have ext : ∀ (d : Nat → Value) (x : Value) (j : Nat) (l : List Value), i < j → over j l W lv d = over j l W lv fun k => if k = i then x else d k := by
        intro d x j l hj
        induction l generalizing j with
        | nil => rfl
        | cons y l ih2 =>
          simp only [over]
          rw [ih2 (j + 1) (by omega)]
          congr 1
          split
          · rfl
          · split
            · rw [if_neg (by omega)]
            · rfl
      simp only [sameB] at h
      split at h
      · rename_i x hx
        obtain ⟨d, hd⟩ := ih r' h.2
        exact ⟨d, by simp only [over, hx]; rw [← hd, h.1]⟩
      · rename_i hx
        split at h
        · rename_i hw
          obtain ⟨d, hd⟩ := ih r' h
          refine ⟨fun k => if k = i then u else d k, ?_⟩
          simp only [over, hx, hw, if_true]
          rw [← ext d u (i + 1) r (by omega), ← hd]
        · rename_i hw
          obtain ⟨d, hd⟩ := ih r' h.2
          exact ⟨d, by simp only [over, hx, hw]; rw [← hd, h.1]⟩
theorem same_over {i : Nat} {W : List Nat} {lv : List (Nat × Value)} (d : Nat → Value) : ∀ (s : List Value), sameB i W lv s (over i s W lv d) := by
  intro s
  induction s generalizing i with
  | nil => trivial
  | cons v r ih =>
    simp only [over, sameB]
    cases look lv i with
    | some x => exact ⟨rfl, ih⟩
    | none => cases memN W i with
      | true => exact ih
      | false => exact ⟨rfl, ih⟩
/-- The end of a round. -/
inductive RoundSt {X : Type} (W : List Nat) (s : List Value) (live : X → List (Nat × Value)) (Ox : X → Hp) (F : X → View → Prop) (μ : X → Nat) (x : X) (s' : List Value) (h' : View) (O' : Hp) : Prop
  | mk (x' : X) (hm : μ x' < μ x) (hs : sameB 0 W (live x') s s') (h2 : View) (O2 : Hp) (hO : O2 = Ox x') (wk : Wk h' O' h2 O2) (hF : F x' h2)
  | know (hk : (∃ w, Val h' O' w) → RoundSt W s live Ox F μ x s' h' O')
theorem RoundSt.run {X : Type} {W : List Nat} {s : List Value} {live : X → List (Nat × Value)} {Ox : X → Hp} {F : X → View → Prop} {μ : X → Nat} {x : X} {s' : List Value} {h' : View} {O' : Hp}
    (hk : RoundSt W s live Ox F μ x s' h' O') (hv : ∃ w, Val h' O' w) : ∃ x', μ x' < μ x ∧ sameB 0 W (live x') s s' ∧ ∃ h2 O2, O2 = Ox x' ∧ Wk h' O' h2 O2 ∧ F x' h2 := by
  induction hk with
  | mk x' hm hs h2 O2 hO wk hF => exact ⟨x', hm, hs, h2, O2, hO, wk, hF⟩
  | know hk ih => exact ih hv
end Gv
end Go
/- Rules: numbers that are natural, slices, loops under one view. -/
namespace Go
namespace Gv
variable {P : Program}

/-! ### natural numbers stay natural -/
theorem NW.addN {a b : Nat} {x y : Int} {K : Value → Prop} (hx : x = a) (hy : y = b) (h : a + b ≤ 9223372036854775807) (hk : K (.int .i64 (a + b : Nat))) : NW .i64 (x + y) K := by
  subst hx hy; exact .i64 (by omega) (by simpa using hk)
theorem NW.subN {a b : Nat} {x y : Int} {K : Value → Prop} (hx : x = a) (hy : y = b) (h : b ≤ a ∧ a ≤ 9223372036854775807) (hk : K (.int .i64 (a - b : Nat))) : NW .i64 (x - y) K := by
  subst hx hy
  have e : (a : Int) - b = ((a - b : Nat) : Int) := by omega
  rw [e]; exact .i64 (by omega) hk
theorem NW.mulN {a b : Nat} {x y : Int} {K : Value → Prop} (hx : x = a) (hy : y = b) (h : a * b ≤ 9223372036854775807) (hk : K (.int .i64 (a * b : Nat))) : NW .i64 (x * y) K := by
  subst hx hy
  have e : (a : Int) * b = ((a * b : Nat) : Int) := by simp
  rw [e]; exact .i64 (by omega) hk
theorem Bits.xorN {a b : Nat} {x y : Int} {K : Value → Prop} (hx : x = a) (hy : y = b) (h : a ≤ 9223372036854775807 ∧ b ≤ 9223372036854775807) (hk : K (.int .i64 (a ^^^ b : Nat))) : Bits .xor .i64 x y K := by
  subst hx hy; exact .i64 (by simp) (by omega) (by simpa [natOp] using hk)
theorem Bits.and1N {a : Nat} {x : Int} {K : Value → Prop} (hx : x = a) (h : a ≤ 9223372036854775807) (hk : K (.int .i64 (a % 2 : Nat))) : Bits .and .i64 x 1 K := by
  subst hx; refine .i64 (by simp) (by omega) ?_
  have : natOp .and (a : Int).toNat (1 : Int).toNat = a % 2 := by simp [natOp, Nat.and_one_is_mod]
  rw [this]; exact hk
theorem Bits.xor8N {a b : Nat} {x y : Int} {K : Value → Prop} (hx : x = a) (hy : y = b) (h : a ≤ 255 ∧ b ≤ 255) (hk : K (.int .u8 (a ^^^ b : Nat))) : Bits .xor .u8 x y K := by
  subst hx hy; exact .u8 (by simp) (by omega) (by simpa [natOp] using hk)
theorem NW.u8N {a : Nat} {x : Int} {K : Value → Prop} (hx : x = a) (h : a ≤ 255) (hk : K (.int .u8 (a : Nat))) : NW .u8 x K := by
  subst hx; exact .u8 (by omega) hk
theorem NW.u8wN {a : Nat} {x : Int} {K : Value → Prop} (hx : x = a) (hk : K (.int .u8 (a % 256 : Nat))) : NW .u8 x K := by
  subst hx; exact .u8w (by simpa using hk)
theorem NW.i64N {a : Nat} {x : Int} {K : Value → Prop} (hx : x = a) (h : a ≤ 9223372036854775807) (hk : K (.int .i64 (a : Nat))) : NW .i64 x K := by
  subst hx; exact .i64 (by omega) hk
theorem DivSt.quoN {a b : Nat} {x y : Int} {K : Value → Prop} (hx : x = a) (hy : y = b) (h : 1 ≤ b ∧ a ≤ 9223372036854775807) (hk : K (.int .i64 (a / b : Nat))) : DivSt .quo .i64 x y K := by
  subst hx hy; exact .quo (by omega) (by simpa using hk)
theorem DivSt.remN {a b : Nat} {x y : Int} {k : IntKind} {K : Value → Prop} (hx : x = a) (hy : y = b) (h : 1 ≤ b) (hk : K (.int k (a % b : Nat))) : DivSt .rem k x y K := by
  subst hx hy; exact .rem (by omega) (by simpa using hk)
theorem ShSt.shlN {a n : Nat} {x y : Int} {K : Value → Prop} (hx : x = a) (hy : y = n) (hn : n < 64) (h : a * 2 ^ n ≤ 9223372036854775807) (hk : K (.int .i64 (a * 2 ^ n : Nat))) : ShSt .shl .i64 x y K := by
  subst hx hy
  have e : (a : Int) * 2 ^ n = ((a * 2 ^ n : Nat) : Int) := by simp
  refine .shl n rfl hn (by rw [e]; omega) (by rw [e]; exact hk)
theorem ShSt.shrN {a n : Nat} {x y : Int} {k : IntKind} {K : Value → Prop} (hx : x = a) (hy : y = n) (hn : n < k.bits) (hk : K (.int k (a / 2 ^ n : Nat))) : ShSt .shr k x y K := by
  subst hx hy
  exact .shr n rfl hn (by simpa using hk)
theorem MinMax.maxN {a b : Nat} {k k' : IntKind} {x y : Int} {K : Value → Prop} (hx : x = a) (hy : y = b) (hk : K (.int k (max a b : Nat))) : MinMax true [.int k x, .int k' y] K := by
  subst hx hy
  refine ⟨.int k (max a b : Nat), fun P w => ?_, hk⟩
  have : (if a < b then (b : Int) else a) = ((max a b : Nat) : Int) := by split <;> omega
  simp [Builtin.max_, Builtin.max2, this]
theorem MinMax.minN {a b : Nat} {k k' : IntKind} {x y : Int} {K : Value → Prop} (hx : x = a) (hy : y = b) (hk : K (.int k (min a b : Nat))) : MinMax false [.int k x, .int k' y] K := by
  subst hx hy
  refine ⟨.int k (min a b : Nat), fun P w => ?_, hk⟩
  have : (if b < a then (b : Int) else a) = ((min a b : Nat) : Int) := by split <;> omega
  simp [Builtin.min_, Builtin.min2, this]

/-! ### cells of one word each -/
/-- Natural numbers as words. -/
def iN (n : Nat) : Value := .int .i64 (n : Nat)
def bN (n : Nat) : Value := .int .u8 (n : Nat)
def sV (s : List UInt8) : Value := .string ⟨⟨s⟩⟩

theorem map_get {α : Type} {g : α → Value} {xs : List α} {j : Nat} (d : α) (h : j < xs.length) : (xs.map g)[j]? = some (g (xs.getD j d)) := by
  simp [List.getElem?_eq_getElem h, List.getD_eq_getElem?_getD]
theorem map_set {α : Type} {g : α → Value} {xs : List α} {j : Nat} {x : α} : setRange (xs.map g) j [g x] = (xs.set j x).map g := by
  rw [setRange_cons, setRange_nil, List.map_set]

/-! ### slices that stay -/
def blk (a : Option Addr) : Nat := match a with | some a => a.block | none => 0
def ofs (a : Option Addr) : Nat := match a with | some a => a.off | none => 0
/-- From the address on lie these cells, and stay. -/
def PS (h : View) (a : Option Addr) (l : List Value) : Prop :=
  l = [] ∨ (a = some ⟨blk a, ofs a, none⟩ ∧ ∃ c ty fr, h (blk a) = some (.cells c ty fr) ∧ ∀ j v, l[j]? = some v → c[ofs a + j]? = some v)
theorem PS.mono {h h' : View} {a : Option Addr} {l : List Value} (H : PS h a l) (hm : ∀ b o, h b = some o → h' b = some o) : PS h' a l := by
  rcases H with H | ⟨ha, c, ty, fr, hb, hc⟩
  · exact .inl H
  · exact .inr ⟨ha, c, ty, fr, hm _ _ hb, hc⟩
theorem PS.nil {h : View} {a : Option Addr} : PS h a [] := .inl rfl
theorem PS.take {h : View} {a : Option Addr} {l : List Value} (H : PS h a l) (n : Nat) : PS h a (l.take n) := by
  rcases H with H | ⟨ha, c, ty, fr, hb, hc⟩
  · exact .inl (by rw [H]; simp)
  · refine .inr ⟨ha, c, ty, fr, hb, fun j v hj => hc j v ?_⟩
    rw [List.getElem?_take] at hj
    split at hj
    · exact hj
    · cases hj
theorem PS.cell {h : View} {a : Option Addr} {l : List Value} {k : Nat} {v : Value} (H : PS h a l) (hk : l[k]? = some v) : a = some ⟨blk a, ofs a, none⟩ ∧ ∃ c ty fr, h (blk a) = some (.cells c ty fr) ∧ c[ofs a + k]? = some v := by
  rcases H with H | ⟨ha, c, ty, fr, hb, hc⟩
  · rw [H] at hk; simp at hk
  · exact ⟨ha, c, ty, fr, hb, hc k v hk⟩
theorem PS.addr {h : View} {a : Option Addr} {l : List Value} {k : Nat} (H : PS h a l) (hk : k < l.length) : a = some ⟨blk a, ofs a, none⟩ := (H.cell (List.getElem?_eq_getElem hk)).1
theorem PS.slice {h : View} {a : Option Addr} {l : List Value} (H : PS h a l) (lo m sz : Nat) (h1 : lo * sz ≤ l.length) (h2 : m = lo → l.length ≤ lo * sz) : PS h (if m = lo then a else a.map (·.add (lo * sz))) (l.drop (lo * sz)) := by
  by_cases e : m = lo
  · exact .inl (List.drop_eq_nil_of_le (h2 e))
  · rw [if_neg e]
    by_cases e2 : l.length ≤ lo * sz
    · exact .inl (List.drop_eq_nil_of_le e2)
    · rcases H with H | ⟨ha, c, ty, fr, hb, hc⟩
      · rw [H] at e2; simp at e2
      · have : a.map (·.add (lo * sz)) = some ⟨blk a, ofs a + lo * sz, none⟩ := by
          rw [ha]; simp only [Option.map_some, blk, ofs, addr_add]
        rw [this]
        refine .inr ⟨rfl, c, ty, fr, hb, fun j v hj => ?_⟩
        rw [List.getElem?_drop] at hj
        have := hc _ v hj
        show c[ofs a + lo * sz + j]? = some v
        rw [show ofs a + lo * sz + j = ofs a + (lo * sz + j) from by omega]; exact this

theorem IdxSl.per {h : View} {a : Option Addr} {l : List Value} {len sz j : Nat} {i : Int} {K : Value → Prop} (s : Nat) (H : PS h a l) (hs : sz = s) (hi : i = j) (hl : j < len) (hj : j * s < l.length)
    (hk : K (.pointer (some ⟨blk a, ofs a + j * s, none⟩))) : IdxSl a len i sz K := by
  subst hs hi
  exact .mk (by omega) (by omega) _ _ (H.addr hj) (by simpa using hk)
theorem IdxSl.own1 {b o len sz j : Nat} {i : Int} {K : Value → Prop} (hs : sz = 1) (hi : i = j) (hl : j < len) (hk : K (.pointer (some ⟨b, o + j, none⟩))) : IdxSl (some ⟨b, o, none⟩) len i sz K := by
  subst hs hi
  exact .mk (by omega) (by omega) _ _ rfl (by simpa using hk)
theorem IdxSl.own {b o len sz j : Nat} {i : Int} {K : Value → Prop} (s : Nat) (hs : sz = s) (hi : i = j) (hl : j < len) (hk : K (.pointer (some ⟨b, o + j * s, none⟩))) : IdxSl (some ⟨b, o, none⟩) len i sz K := by
  subst hs hi
  exact .mk (by omega) (by omega) _ _ rfl (by simpa using hk)
theorem IdxArrP.n1 {n j b off sz : Nat} {i : Int} {K : Value → Prop} (hs : sz = 1) (hi : i = j) (hl : j < n) (hk : K (.pointer (some ⟨b, off + j, none⟩))) : IdxArrP n i b off sz K := by
  subst hi hs
  exact .mk (by omega) (by omega) (by simpa using hk)
theorem IdxArrP.n {n j b off sz : Nat} {i : Int} {K : Value → Prop} (hi : i = j) (hl : j < n) (hk : K (.pointer (some ⟨b, off + j * sz, none⟩))) : IdxArrP n i b off sz K := by
  subst hi
  exact .mk (by omega) (by omega) (by simpa using hk)
theorem IdxArr.n {n j : Nat} {i : Int} {K : Nat → Prop} (hi : i = j) (hl : j < n) (hk : K j) : IdxArr n i K := by
  subst hi; exact .mk (by omega) (by omega) (by simpa using hk)
theorem LoadSt.ps {h : View} {O : Hp} {a : Option Addr} {l : List Value} {k : Nat} {c : Value} {K : Value → Prop} (H : PS h a l) (hc : l[k]? = some c) (hk : K c) : LoadSt h O (blk a) (ofs a + k) none K := by
  obtain ⟨ha, cs, ty, fr, hb, he⟩ := H.cell hc
  exact .one K _ (.per hb) c he hk
theorem LoadSt.ownm {α : Type} {h : View} {O : Hp} {b off j : Nat} {g : α → Value} {xs : List α} {ty : TypeId} {fr : Nat × Nat} {K : Value → Prop} (d : α) (m : (b, Obj.cells ⟨xs.map g⟩ ty fr) ∈ O) (ho : off = j) (hj : j < xs.length)
    (hk : K (g (xs.getD j d))) : LoadSt h O b off none K := by
  subst ho; exact .own m (map_get d hj) hk
theorem StoreSt.map {α : Type} {h : View} {O : Hp} {b off j : Nat} {v : Value} {g : α → Value} {xs : List α} {x : α} {ty : TypeId} {fr : Nat × Nat} {f : List Value → Hp} {K : View → Hp → Prop} (u : Upd O b (xs.map g) ty fr f)
    (ho : off = j) (hj : j < xs.length) (hf : fr.2 ≤ fr.1 ∨ off + 1 ≤ fr.1) (hv : v = g x) (h1 : v.oneCell' = true) (hk : K h (f ((xs.set j x).map g))) : StoreSt h O b off [v] K := by
  subst ho hv
  exact .own u (by simp only [List.length_cons, List.length_nil, List.length_map]; omega) hf (by simpa using h1) (by rw [map_set]; exact hk)

/-! ### loops under one view -/
inductive RoundFix {X : Type} (W : List Nat) (s : List Value) (live : X → List (Nat × Value)) (Ox : X → Hp) (F : X → Prop) (μ : X → Nat) (h1 : View) (x : X) (s' : List Value) (h' : View) (O' : Hp) : Prop
  | mk (x' : X) (hm : μ x' < μ x) (hs : sameB 0 W (live x') s s') (O2 : Hp) (hO : O2 = Ox x') (wk : Wk h' O' h1 O2) (hF : F x')
  | know (hk : (∃ w, Val h' O' w) → RoundFix W s live Ox F μ h1 x s' h' O')
theorem RoundFix.run {X : Type} {W : List Nat} {s : List Value} {live : X → List (Nat × Value)} {Ox : X → Hp} {F : X → Prop} {μ : X → Nat} {h1 : View} {x : X} {s' : List Value} {h' : View} {O' : Hp}
    (hk : RoundFix W s live Ox F μ h1 x s' h' O') (hv : ∃ w, Val h' O' w) : ∃ x', μ x' < μ x ∧ sameB 0 W (live x') s s' ∧ ∃ O2, O2 = Ox x' ∧ Wk h' O' h1 O2 ∧ F x' := by
  induction hk with
  | mk x' hm hs O2 hO wk hF => exact ⟨x', hm, hs, O2, hO, wk, hF⟩
  | know hk ih => exact ih hv
theorem LoopSt.fix {b : Code} {body : Body} {s : List Value} {h : View} {O : Hp} {K : Exit → List Value → View → Hp → Prop} {X : Type} (W : List Nat) (live : X → List (Nat × Value)) (Ox : X → Hp)
    (F : X → Prop) (μ : X → Nat) (x0 : X) (O1 : Hp) (wk : Wk h O h O1) (hO : O1 = Ox x0) (hs : sameB 0 W (live x0) s s) (hF : F x0)
    (round : ∀ x d, F x → overK 0 s W (live x) d fun s1 => body s1 h (Ox x) fun e s' h'' O'' => match e with
      | .normal => RoundFix W s live Ox F μ h x s' h'' O''
      | e => K e s' h'' O'') : LoopSt b body s h O K := by
  refine .mk X (fun x s' h' O' => (∃ d, s' = over 0 s W (live x) d) ∧ O' = Ox x ∧ h' = h ∧ F x) μ x0 h O1 wk ⟨over_same s s hs, hO, rfl, hF⟩ ?_
  rintro x s' h' O' ⟨⟨d, rfl⟩, rfl, rfl, hF⟩
  have := round x d hF
  rw [overK_eq] at this
  refine cast ?_ this
  congr 1
  funext e s2 h2 O2
  cases e <;> first | rfl | skip
  apply propext
  constructor
  · rintro hk hv
    obtain ⟨x', hm, hs, O2, hO, wk, hF⟩ := hk.run hv
    exact ⟨x', _, O2, wk, hm, over_same s s2 hs, hO, rfl, hF⟩
  · refine fun hk => .know fun hv => ?_
    obtain ⟨x', h3, O3, wk2, hm, ⟨d, hs⟩, hO, rfl, hF⟩ := hk hv
    exact .mk x' hm (by rw [hs]; exact same_over d s) O3 hO wk2 hF
end Gv
end Go
/- Rules: reading what stays or is owned; parts of what is owned; rows that grow. -/
namespace Go
namespace Gv
variable {P : Program}

/-! ### reading -/
/-- From the address on these cells can be read. -/
def Rd (h : View) (O : Hp) (a : Option Addr) (l : List Value) : Prop :=
  l = [] ∨ (a = some ⟨blk a, ofs a, none⟩ ∧ ∃ c ty fr, Lk h O (blk a) (.cells c ty fr) ∧ ∀ j v, l[j]? = some v → c[ofs a + j]? = some v)
theorem Lk.more {h h' : View} {O O' : Hp} {b : Nat} {o : Obj} (H : Lk h O b o) (hm : ∀ b o, h b = some o → h' b = some o) (hs : ∀ b o, (b, o) ∈ O → (b, o) ∈ O') : Lk h' O' b o := by
  cases H with
  | own m => exact .own (hs _ _ m)
  | per e => exact .per (hm _ _ e)
theorem Rd.more {h h' : View} {O O' : Hp} {a : Option Addr} {l : List Value} (H : Rd h O a l) (hm : ∀ b o, h b = some o → h' b = some o) (hs : ∀ b o, (b, o) ∈ O → (b, o) ∈ O') : Rd h' O' a l := by
  rcases H with H | ⟨ha, c, ty, fr, hb, hc⟩
  · exact .inl H
  · exact .inr ⟨ha, c, ty, fr, hb.more hm hs, hc⟩
theorem Rd.nil {h : View} {O : Hp} {a : Option Addr} : Rd h O a [] := .inl rfl
theorem Rd.cons {h : View} {O : Hp} {x : Nat × Obj} {a : Option Addr} {l : List Value} (H : Rd h O a l) : Rd h (x :: O) a l := H.more (fun _ _ e => e) fun _ _ e => List.mem_cons_of_mem _ e
theorem Rd.appR {h : View} {O G : Hp} {a : Option Addr} {l : List Value} (H : Rd h O a l) : Rd h (G ++ O) a l := H.more (fun _ _ e => e) fun _ _ e => List.mem_append_right _ e
theorem Rd.appL {h : View} {O G : Hp} {a : Option Addr} {l : List Value} (H : Rd h G a l) : Rd h (G ++ O) a l := H.more (fun _ _ e => e) fun _ _ e => List.mem_append_left _ e
theorem PS.rd {h : View} {O : Hp} {a : Option Addr} {l : List Value} (H : PS h a l) : Rd h O a l := by
  rcases H with H | ⟨ha, c, ty, fr, hb, hc⟩
  · exact .inl H
  · exact .inr ⟨ha, c, ty, fr, .per hb, hc⟩
theorem Rd.own {h : View} {O : Hp} {b off : Nat} {c l : List Value} {ty : TypeId} {fr : Nat × Nat} (m : (b, Obj.cells ⟨c⟩ ty fr) ∈ O) (hc : ∀ (j : Nat) (v : Value), l[j]? = some v → c[off + j]? = some v) : Rd h O (some ⟨b, off, none⟩) l :=
  .inr ⟨rfl, _, _, _, .own m, by simpa [ofs] using hc⟩
theorem Rd.own0 {h : View} {O : Hp} {b : Nat} {l : List Value} {ty : TypeId} {fr : Nat × Nat} (m : (b, Obj.cells ⟨l⟩ ty fr) ∈ O) : Rd h O (some ⟨b, 0, none⟩) l := Rd.own (c := l) m fun (j : Nat) (v : Value) (e : l[j]? = some v) => by rw [Nat.zero_add]; exact e
theorem Rd.sub {h : View} {O : Hp} {a : Option Addr} {l l' : List Value} (H : Rd h O a l) (hs : ∀ (j : Nat) (v : Value), l'[j]? = some v → l[j]? = some v) : Rd h O a l' := by
  rcases H with H | ⟨ha, c, ty, fr, hb, hc⟩
  · refine .inl ?_
    cases l' with
    | nil => rfl
    | cons x r => have := hs 0 x rfl; rw [H] at this; cases this
  · exact .inr ⟨ha, c, ty, fr, hb, fun j v e => hc j v (hs j v e)⟩
theorem Rd.take {h : View} {O : Hp} {a : Option Addr} {l : List Value} (H : Rd h O a l) (n : Nat) : Rd h O a (l.take n) := H.sub fun j v e => by
  rw [List.getElem?_take] at e
  split at e
  · exact e
  · cases e
theorem Rd.left {h : View} {O : Hp} {a : Option Addr} {l m : List Value} (H : Rd h O a (l ++ m)) : Rd h O a l := H.sub fun j v e => by
  have hj := (List.getElem?_eq_some_iff.1 e).1
  rw [List.getElem?_append_left hj]; exact e
theorem Rd.cell {h : View} {O : Hp} {a : Option Addr} {l : List Value} {k : Nat} {v : Value} (H : Rd h O a l) (hk : l[k]? = some v) :
    a = some ⟨blk a, ofs a, none⟩ ∧ ∃ c ty fr, Lk h O (blk a) (.cells c ty fr) ∧ c[ofs a + k]? = some v := by
  rcases H with H | ⟨ha, c, ty, fr, hb, hc⟩
  · rw [H] at hk; simp at hk
  · exact ⟨ha, c, ty, fr, hb, hc k v hk⟩
theorem Rd.addr {h : View} {O : Hp} {a : Option Addr} {l : List Value} {k : Nat} (H : Rd h O a l) (hk : k < l.length) : a = some ⟨blk a, ofs a, none⟩ := (H.cell (List.getElem?_eq_getElem hk)).1
theorem Rd.slice {h : View} {O : Hp} {a : Option Addr} {l : List Value} (H : Rd h O a l) (lo m sz : Nat) (h2 : m = lo → l.length ≤ lo * sz) : Rd h O (if m = lo then a else a.map (·.add (lo * sz))) (l.drop (lo * sz)) := by
  by_cases e : m = lo
  · exact .inl (List.drop_eq_nil_of_le (h2 e))
  · rw [if_neg e]
    by_cases e2 : l.length ≤ lo * sz
    · exact .inl (List.drop_eq_nil_of_le e2)
    · rcases H with H | ⟨ha, c, ty, fr, hb, hc⟩
      · rw [H] at e2; simp at e2
      · have : a.map (·.add (lo * sz)) = some ⟨blk a, ofs a + lo * sz, none⟩ := by
          rw [ha]; simp only [Option.map_some, blk, ofs, addr_add]
        rw [this]
        refine .inr ⟨rfl, c, ty, fr, hb, fun j v hj => ?_⟩
        rw [List.getElem?_drop] at hj
        have := hc _ v hj
        show c[ofs a + lo * sz + j]? = some v
        rw [show ofs a + lo * sz + j = ofs a + (lo * sz + j) from by omega]; exact this
theorem Rd.cells {h : View} {O : Hp} {a : Option Addr} {l : List Value} (H : Rd h O a l) {w : World} (hv : Val h O w) : l = [] ∨ (a = some ⟨blk a, ofs a, none⟩ ∧ ∀ j v, l[j]? = some v → w.cell? ((⟨blk a, ofs a, none⟩ : Addr).add j) = some v) := by
  rcases H with H | ⟨ha, c, ty, fr, hb, hc⟩
  · exact .inl H
  · refine .inr ⟨ha, fun j v e => ?_⟩
    rw [addr_add]
    exact cell_of (hb.at hv) (hc j v e)

theorem natL (n : Nat) : (OfNat.ofNat n : Int) = ((OfNat.ofNat n : Nat) : Int) := rfl
theorem StrIdx.n {l : List UInt8} {i : Int} {j : Nat} {K : Value → Prop} (hi : i = j) (hl : j < l.length) (hk : K (bN (l.getD j 0).toNat)) : StrIdx l i K := by
  subst hi; exact .mk (by omega) (by omega) (by rw [Int.toNat_natCast]; exact hk)
theorem shl_le {a n : Nat} (hn : n < 40) (h : a < 4194304) : a * 2 ^ n ≤ 9223372036854775807 := by
  have h1 : a * 2 ^ n ≤ a * 2 ^ 39 := Nat.mul_le_mul_left _ (Nat.pow_le_pow_right (by omega) (by omega))
  have h2 : a * 2 ^ 39 ≤ 4194304 * 2 ^ 39 := Nat.mul_le_mul_right _ (by omega)
  omega
theorem ShSt.shlS {a n : Nat} {x y : Int} {K : Value → Prop} (hx : x = a) (hy : y = n) (hn : n < 40) (h : a < 4194304) (hk : K (.int .i64 (a * 2 ^ n : Nat))) : ShSt .shl .i64 x y K :=
  .shlN hx hy (by omega) (shl_le hn h) hk
theorem sub_app {A B C : Hp} (h : B.Sublist C) : (A ++ B).Sublist (A ++ C) := List.Sublist.append (List.Sublist.refl _) h
theorem sub_skip {A B C : Hp} (h : B.Sublist C) : B.Sublist (A ++ C) := h.trans (List.sublist_append_right _ _)
theorem NW.u64N {a : Nat} {x : Int} {K : Value → Prop} (hx : x = a) (h : a ≤ 18446744073709551615) (hk : K (.int .u64 (a : Nat))) : NW .u64 x K := by
  subst hx; exact .u64 (by omega) hk
theorem GSpec.cast {f : FuncId} {args args' : List Value} {h : View} {O : Hp} {R : Value → View → Hp → Prop} (sp : GSpec P f args h O R) (e : args' = args) : GSpec P f args' h O R := e ▸ sp
theorem iN_lit (n : Nat) : Value.int .i64 (OfNat.ofNat n) = iN (OfNat.ofNat n) := rfl
theorem CallSt.decY {f : FuncId} {args : List Value} {h : View} {O : Hp} {K : Value → View → Hp → Prop} {p : Prop} {_ : Decidable p} (sp : GSpec P f args h O (Ret O (.bool (decide p)))) (hp : p) (hk : K (.bool true) h O) : CallSt P f args h O K :=
  .rd sp (by rw [decide_eq_true hp]; exact hk)
theorem CallSt.decN {f : FuncId} {args : List Value} {h : View} {O : Hp} {K : Value → View → Hp → Prop} {p : Prop} {_ : Decidable p} (sp : GSpec P f args h O (Ret O (.bool (decide p)))) (hp : ¬ p) (hk : K (.bool false) h O) : CallSt P f args h O K :=
  .rd sp (by rw [decide_eq_false hp]; exact hk)
theorem CallSt.dec {f : FuncId} {args : List Value} {h : View} {O : Hp} {K : Value → View → Hp → Prop} {p : Prop} {_ : Decidable p} (sp : GSpec P f args h O (Ret O (.bool (decide p)))) (h1 : p → K (.bool true) h O) (h2 : ¬ p → K (.bool false) h O) : CallSt P f args h O K := by
  by_cases hp : p
  · exact .decY sp hp (h1 hp)
  · exact .decN sp hp (h2 hp)
theorem CallG.decY {f : FuncId} {args : List Value} {h : View} {O : Hp} {K : Value → View → Hp → Prop} {p : Prop} {_ : Decidable p} (sp : GSpec P f args h O (Ret O (.bool (decide p)))) (hp : p) (hk : K (.bool true) h O) : CallG P f args h O K :=
  .rd sp (by rw [decide_eq_true hp]; exact hk)
theorem CallG.decN {f : FuncId} {args : List Value} {h : View} {O : Hp} {K : Value → View → Hp → Prop} {p : Prop} {_ : Decidable p} (sp : GSpec P f args h O (Ret O (.bool (decide p)))) (hp : ¬ p) (hk : K (.bool false) h O) : CallG P f args h O K :=
  .rd sp (by rw [decide_eq_false hp]; exact hk)
theorem CallG.dec {f : FuncId} {args : List Value} {h : View} {O : Hp} {K : Value → View → Hp → Prop} {p : Prop} {_ : Decidable p} (sp : GSpec P f args h O (Ret O (.bool (decide p)))) (h1 : p → K (.bool true) h O) (h2 : ¬ p → K (.bool false) h O) : CallG P f args h O K := by
  by_cases hp : p
  · exact .decY sp hp (h1 hp)
  · exact .decN sp hp (h2 hp)
/-- Lists of values, each of so many cells. -/
theorem flat_length {α : Type} {g : α → List Value} {s : Nat} (hg : ∀ x, (g x).length = s) (xs : List α) : (xs.flatMap g).length = xs.length * s := by
  induction xs with
  | nil => simp
  | cons x xs ih => rw [List.flatMap_cons, List.length_append, hg, ih, List.length_cons, Nat.add_mul, Nat.one_mul, Nat.add_comm]
theorem flat_get {α : Type} [Inhabited α] {g : α → List Value} {s : Nat} (hg : ∀ x, (g x).length = s) : ∀ (xs : List α) (k j : Nat), k < xs.length → j < s → (xs.flatMap g)[k * s + j]? = (g (xs.getD k default))[j]?
  | [], _, _, h, _ => by simp at h
  | x :: xs, 0, j, _, hj => by
    rw [List.flatMap_cons, List.getElem?_append_left (by rw [hg]; omega)]; simp
  | x :: xs, k + 1, j, hk, hj => by
    rw [List.flatMap_cons, List.getElem?_append_right (by rw [hg, Nat.add_mul]; omega), hg]
    have : (k + 1) * s + j - s = k * s + j := by rw [Nat.add_mul]; omega
    rw [this, flat_get hg xs k j (by simpa using hk) hj]; simp
theorem map_getD {α : Type} [Inhabited α] {g : α → Value} {xs : List α} {j : Nat} (h : j < xs.length) : (xs.map g)[j]? = some (g (xs.getD j default)) := map_get default h

theorem LoadSt.rd {h : View} {O : Hp} {a : Option Addr} {l : List Value} {k : Nat} {c : Value} {K : Value → Prop} (H : Rd h O a l) (hc : l[k]? = some c) (hk : K c) : LoadSt h O (blk a) (ofs a + k) none K := by
  obtain ⟨ha, cs, ty, fr, hb, he⟩ := H.cell hc
  exact .one K _ hb c he hk
theorem LoadSt.rdm {α : Type} [Inhabited α] {h : View} {O : Hp} {a : Option Addr} {g : α → Value} {xs : List α} {k : Nat} {K : Value → Prop} (H : Rd h O a (xs.map g)) (hj : k < xs.length) (hk : K (g (xs.getD k default))) :
    LoadSt h O (blk a) (ofs a + k) none K := .rd H (map_getD hj) hk
/-- A part of an element of several cells. -/
theorem LoadSt.rdf {α : Type} [Inhabited α] {h : View} {O : Hp} {a : Option Addr} {g : α → List Value} {xs : List α} {s k f : Nat} {K : Value → Prop} (H : Rd h O a (xs.flatMap g)) (hg : ∀ x, (g x).length = s) (hj : k < xs.length) (hf : f < s)
    (hk : nthK (g (xs.getD k default)) f K) : LoadSt h O (blk a) (ofs a + k * s + f) none K := by
  obtain ⟨c, hc, hk⟩ := nthK_some hk
  rw [Nat.add_assoc]
  exact .rd H (by rw [flat_get hg xs k f hj hf]; exact hc) hk
theorem LoadSt.rda {α : Type} [Inhabited α] {h : View} {O : Hp} {a : Option Addr} {g : α → List Value} {xs : List α} {s k : Nat} {K : Value → Prop} (H : Rd h O a (xs.flatMap g)) (hg : ∀ x, (g x).length = s) (hs : 0 < s) (hj : k < xs.length)
    (hk : K (.agg ⟨g (xs.getD k default)⟩)) : LoadSt h O (blk a) (ofs a + k * s) (some s) K := by
  have hlen := flat_length hg xs
  have hlt : k * s < (xs.flatMap g).length := by rw [hlen]; exact Nat.mul_lt_mul_of_pos_right hj hs
  obtain ⟨ha, c, ty, fr, hb, _⟩ := H.cell (List.getElem?_eq_getElem hlt)
  rcases H with H | ⟨_, c, ty, fr, hb, hc⟩
  · rw [H] at hlt; simp at hlt
  · refine .agg K s _ hb _ (hg _) (fun j v e => ?_) hk
    have hj2 := (List.getElem?_eq_some_iff.1 e).1
    rw [hg] at hj2
    show c[ofs a + k * s + j]? = some v
    rw [Nat.add_assoc]
    exact hc _ v (by rw [flat_get hg xs k j hj hj2]; exact e)
theorem IdxSl.rd1 {h : View} {O : Hp} {a : Option Addr} {l : List Value} {len sz j : Nat} {i : Int} {K : Value → Prop} (H : Rd h O a l) (hs : sz = 1) (hi : i = j) (hl : j < len) (hj : j < l.length)
    (hk : K (.pointer (some ⟨blk a, ofs a + j, none⟩))) : IdxSl a len i sz K := by
  subst hs hi
  exact .mk (by omega) (by omega) _ _ (H.addr hj) (by simpa using hk)
theorem IdxSl.rd {h : View} {O : Hp} {a : Option Addr} {l : List Value} {len sz j : Nat} {i : Int} {K : Value → Prop} (s : Nat) (H : Rd h O a l) (hs : sz = s) (hi : i = j) (hl : j < len) (hj : 0 < l.length)
    (hk : K (.pointer (some ⟨blk a, ofs a + j * s, none⟩))) : IdxSl a len i sz K := by
  subst hs hi
  exact .mk (by omega) (by omega) _ _ (H.addr hj) (by simpa using hk)

/-- Bytes to a string. -/
theorem push_fold (ns : List Int) : ∀ (s : ByteArray), (ns.foldl (fun r n => r.push (UInt8.ofNat n.toNat)) s) = ⟨⟨s.data.toList ++ ns.map fun n => UInt8.ofNat n.toNat⟩⟩ := by
  induction ns with
  | nil => intro s; simp
  | cons n ns ih => intro s; rw [List.foldl_cons, ih]; simp [ByteArray.push]
theorem ToStr.rdm {h : View} {O : Hp} {a : Option Addr} {len cap : Nat} {K : Value → Prop} (l : List UInt8) (H : Rd h O a (l.map byteV)) (hl : l.length = len) (hk : K (.string ⟨⟨l⟩⟩)) : ToStr h O (.slice a len cap) K := by
  refine .mk l (fun P w hv => ?_) hk
  have e0 : Conv.bytesToString (.slice none len cap) = (pure (.string .empty) : Sem Value) := rfl
  have main : ∀ a' : Addr, (∀ j v, (l.map byteV)[j]? = some v → w.cell? (a'.add j) = some v) → (Conv.bytesToString (.slice (some a') len cap)).run P w = .ok (.string ⟨⟨l⟩⟩) w := by
    intro a' hc
    have h1 := run_loadCells_list (P := P) w a' (l.map byteV) hc
    rw [List.length_map, hl] at h1
    have h2 : l.map byteV = (l.map fun c => (c.toNat : Int)).map (Value.int .u8) := by rw [List.map_map]; rfl
    rw [h2] at h1
    rw [run_bytesToString w a' len cap _ h1, push_fold]
    simp [Function.comp_def]
  rcases H.cells hv with h0 | ⟨ha, hc⟩
  · have : l = [] := by simpa using h0
    subst this
    cases a with
    | none => rw [e0]; rfl
    | some a' => exact main a' (by simp)
  · rw [ha]; exact main _ hc

/-! ### parts of what is owned -/
/-- What is owned, with a gap in the place of H. -/
structure Loc (O H : Hp) (f : Hp → Hp) : Prop where
  parts : ∃ A B, O = A ++ (H ++ B) ∧ ∀ H', f H' = A ++ (H' ++ B)
theorem Loc.all {H : Hp} : Loc H H id := ⟨[], [], by simp, fun H' => by simp⟩
theorem Loc.hd {H r : Hp} : Loc (H ++ r) H (· ++ r) := ⟨[], r, rfl, fun _ => rfl⟩
theorem Loc.tl {x : Nat × Obj} {r H : Hp} {f : Hp → Hp} (l : Loc r H f) : Loc (x :: r) H (fun H' => x :: f H') := by
  obtain ⟨A, B, rfl, hf⟩ := l.parts
  exact ⟨x :: A, B, rfl, fun H' => by rw [hf]; rfl⟩
theorem Loc.skip {G r H : Hp} {f : Hp → Hp} (l : Loc r H f) : Loc (G ++ r) H (fun H' => G ++ f H') := by
  obtain ⟨A, B, rfl, hf⟩ := l.parts
  exact ⟨G ++ A, B, by simp, fun H' => by rw [hf]; simp⟩

/-! ### rows that grow -/
structure Buf where
  a : Option Addr
  cap : Nat
  pad : List Value
  fr : Nat × Nat
def Buf.nil : Buf := ⟨none, 0, [], (0, 0)⟩
/-- The block of a row whose first cells are l. -/
def Buf.hp (b : Buf) (e : TypeId) (l : List Value) : Hp :=
  match b.a with
  | none => []
  | some a => [(a.block, .cells ⟨l ++ b.pad⟩ e b.fr)]
/-- A row of n elements, its cells l. -/
def Buf.ok (b : Buf) (sz : Nat) (l : List Value) (n : Nat) : Prop :=
  l.length = n * sz ∧ ((b.a = none ∧ b.cap = 0 ∧ n = 0) ∨ (b.a = some ⟨blk b.a, 0, none⟩ ∧ n ≤ b.cap ∧ b.pad.length = (b.cap - n) * sz ∧ (b.fr.2 ≤ b.fr.1 ∨ b.cap * sz ≤ b.fr.1)))
theorem Buf.nil_ok (sz : Nat) : Buf.nil.ok sz [] 0 := ⟨by simp, .inl ⟨rfl, rfl, rfl⟩⟩
theorem Buf.rd {b : Buf} {e : TypeId} {l : List Value} {n sz : Nat} {h : View} (hb : b.ok sz l n) : Rd h (b.hp e l) b.a l := by
  obtain ⟨a, cap, pad, fr⟩ := b
  rcases hb with ⟨hl, ⟨ha, hc, hn⟩ | ⟨ha, hc, hp, hfr⟩⟩
  · simp only at ha hc hn
    subst hn
    exact .inl (List.eq_nil_of_length_eq_zero (by simpa using hl))
  · simp only at ha hc hp
    rw [ha]
    exact Rd.own (c := l ++ pad) (List.mem_singleton.2 rfl) fun (j : Nat) (v : Value) (e : l[j]? = some v) => by
      have hj := (List.getElem?_eq_some_iff.1 e).1
      rw [Nat.zero_add, List.getElem?_append_left hj]; exact e
theorem Loc.buf_rd {b : Buf} {e : TypeId} {l : List Value} {n sz : Nat} {h : View} {O : Hp} {f : Hp → Hp} (hO : Loc O (b.hp e l) f) (hb : b.ok sz l n) : Rd h O b.a l := by
  obtain ⟨A, B, rfl, _⟩ := hO.parts
  exact (Buf.rd hb).appL.appR
/-- A row that is whole: as make or a literal gives it. -/
def Buf.of (b n : Nat) : Buf := ⟨some ⟨b, 0, none⟩, n, [], (0, 0)⟩
theorem Buf.of_hp (b n : Nat) (e : TypeId) (l : List Value) : (Buf.of b n).hp e l = [(b, .cells ⟨l⟩ e (0, 0))] := by simp [Buf.of, Buf.hp]
theorem Buf.of_ok {b n sz : Nat} {l : List Value} (h : l.length = n * sz) : (Buf.of b n).ok sz l n := ⟨h, .inr ⟨rfl, Nat.le_refl _, by simp [Buf.of], .inl (Nat.le_refl _)⟩⟩

/-- What is appended, or copied. -/
structure Srcs (P : Program) (h : View) (O : Hp) (sz : Nat) (t2 : TypeId) (y : Value) (m : Nat) (ys : List Value) : Prop where
  src : ∀ w, Val h O w → Src P sz t2 y m ys w
theorem Val.drew {h : View} {O : Hp} {w : World} (hv : Val h O w) : Val h O w.drew := ⟨hv.per, hv.own, hv.nodup, hv.apart⟩
theorem Srcs.rd {h : View} {O : Hp} {sz : Nat} {t2 e2 : TypeId} {a : Option Addr} {m cap : Nat} {ys : List Value} (H : Rd h O a ys) (hu : P.underlying t2 = some (.slice e2)) (hl : ys.length = m * sz) (h1 : ys.all (·.oneCell') = true) (h0 : a = none → m = 0) :
    Srcs P h O sz t2 (.slice a m cap) m ys := by
  refine ⟨fun w hv => ?_⟩
  cases a with
  | none =>
    have : m = 0 := h0 rfl
    subst this
    have : ys = [] := List.eq_nil_of_length_eq_zero (by simpa using hl)
    subst this
    exact Src.ofNil w hu cap
  | some a =>
    refine Src.ofSlice w hu a m cap ys hl (fun j u e => ?_) (all_one h1)
    rcases H.cells hv with h2 | ⟨ha, hc⟩
    · rw [h2] at e; simp at e
    · have := hc j u e
      rw [← Option.some.inj ha] at this
      exact this
theorem Srcs.str {h : View} {O : Hp} {t2 : TypeId} {l : List UInt8} (hu : P.underlying t2 = some .string) : Srcs P h O 1 t2 (.string ⟨⟨l⟩⟩) l.length (l.map byteV) :=
  ⟨fun w _ => Src.ofString (P := P) w hu ⟨⟨l⟩⟩⟩

theorem AppSt.buf {t t2 ty e : TypeId} {inf : TypeInfo} {b : Buf} {n m : Nat} {y : Value} {h : View} {O : Hp} {l ys : List Value} {f : Hp → Hp} {K : Value → View → Hp → Prop} (hO : Loc O (b.hp e l) f) (hb : b.ok inf.size l n)
    (hs : Srcs P h O inf.size t2 y m ys) (z : Value) (hz : inf.zero = some z) (hzl : (cellsL z).length = inf.size) (hfit : (n + m) * inf.bytes ≤ 140737488355328) (h63 : n + m ≤ 9223372036854775807)
    (hk : ∀ b' : Buf, b'.ok inf.size (l ++ ys) (n + m) → K (.slice b'.a (n + m) b'.cap) h (f (b'.hp e (l ++ ys)))) : AppSt P t t2 ty e inf (.slice b.a n b.cap) y h O K := by
  refine .mk fun hu hi _ w hv => ?_
  have hsrc := hs.src w hv
  obtain ⟨A, B, rfl, hf⟩ := hO.parts
  have hlys : (l ++ ys).length = (n + m) * inf.size := by rw [List.length_append, hb.1, hsrc.newsLen, Nat.add_mul]
  by_cases hroom : n + m ≤ b.cap
  · -- there is room
    obtain ⟨a, cap, pad, fr⟩ := b
    rcases hb with ⟨hl, ⟨ha, hc, hn⟩ | ⟨ha, hc, hp, hfr⟩⟩
    · simp only at ha hc hn hroom
      subst ha hc hn
      have hm : m = 0 := by omega
      subst hm
      have hys : ys = [] := List.eq_nil_of_length_eq_zero (by have := hsrc.newsLen; simpa using this)
      have hl0 : l = [] := List.eq_nil_of_length_eq_zero (by simpa using hl)
      subst hys hl0
      refine ⟨.slice none 0 0, w, h, A ++ (Buf.hp ⟨none, 0, pad, fr⟩ e [] ++ B), ?_, Step.refl hv, ?_⟩
      · have hcs := hsrc.cells
        have hln := hsrc.len w
        rcases hsrc.kind with ⟨e', hk⟩ | hk <;> simp [Builtin.append_, run_underlying hu, run_underlying hk, sizeOf, typeInfo, hi, hln, hcs]
      · have := hk ⟨none, 0, pad, fr⟩ ⟨by simp, .inl ⟨rfl, rfl, rfl⟩⟩
        rw [hf] at this; simpa using this
    · simp only at ha hc hp hroom hfr
      have hblk : A ++ (Buf.hp ⟨a, cap, pad, fr⟩ e l ++ B) = A ++ (blk a, Obj.cells ⟨l ++ pad⟩ e fr) :: B := by rw [ha]; rfl
      rw [hblk] at hv ⊢
      have hg := hv.own (blk a) (Obj.cells ⟨l ++ pad⟩ e fr) (by simp)
      have hle : ys.length ≤ pad.length := by
        rw [hp, hsrc.newsLen]; exact Nat.mul_le_mul_right _ (by omega)
      have hcsz : n * inf.size + (cap - n) * inf.size = cap * inf.size := by rw [← Nat.add_mul]; congr 1; omega
      have hst := storeCells_run (P := P) (blk a) (n * inf.size) e fr ys 0 ⟨l ++ pad⟩ w hg (by simp [hl]; omega) (fun j hj ⟨h1, h2⟩ => by rcases hfr with h3 | h3 <;> omega) hsrc.one
      simp only [Nat.add_zero] at hst
      have hset : setRange (l ++ pad) (n * inf.size) ys = l ++ ys ++ pad.drop ys.length := by
        rw [← hl]
        apply List.ext_getElem?
        intro i
        rw [setRange_get]
        by_cases h1 : i < l.length
        · rw [if_neg (by omega), List.getElem?_append_left h1, List.append_assoc, List.getElem?_append_left h1]
        · by_cases h2 : i < l.length + ys.length
          · rw [if_pos (by simp; omega), List.append_assoc, List.getElem?_append_right (by omega), List.getElem?_append_left (by omega)]
          · rw [if_neg (by omega), List.getElem?_append_right (by omega), List.append_assoc, List.getElem?_append_right (by omega), List.getElem?_append_right (by omega), List.getElem?_drop]
            congr 1; omega
      simp only [hset] at hst
      refine ⟨.slice a (n + m) cap, putBlock w (blk a) (.cells ⟨l ++ ys ++ pad.drop ys.length⟩ e fr), h, A ++ (blk a, .cells ⟨l ++ ys ++ pad.drop ys.length⟩ e fr) :: B, ?_, Step.put hv, ?_⟩
      · have hcs := hsrc.cells
        have hln := hsrc.len w
        have hadd : ∀ k, (⟨blk a, 0, none⟩ : Addr).add k = ⟨blk a, k, none⟩ := fun k => by rw [addr_add, Nat.zero_add]
        have key : (Builtin.append_ #[t, t2] ty #[.slice (some ⟨blk a, 0, none⟩) n cap, y]).run P w = .ok (.slice (some ⟨blk a, 0, none⟩) (n + m) cap) (putBlock w (blk a) (.cells ⟨l ++ ys ++ pad.drop ys.length⟩ e fr)) := by
          rcases hsrc.kind with ⟨e', hk⟩ | hk <;> simp only [Builtin.append_, Sem.run_bind, run_underlying hu, run_underlying hk, sizeOf, typeInfo, hi, hln, hcs, hroom, hadd, List.getElem?_toArray, List.getElem?_cons_zero, List.getElem?_cons_succ, Result.andThen_ok, Sem.run_pure, if_true, Bool.false_eq_true, if_false, pure_bind, Bool.not_false, run_program, hst]
        rw [← ha] at key
        exact key
      · have := hk ⟨a, cap, pad.drop ys.length, fr⟩ ⟨hlys, .inr ⟨ha, hroom, by simp only [List.length_drop, hp, hsrc.newsLen]; rw [← Nat.sub_mul]; congr 1; omega, hfr⟩⟩
        rw [hf] at this
        have hsl : Value.slice a (n + m) cap = Value.slice (some ⟨blk a, 0, none⟩) (n + m) cap := by rw [← ha]
        rw [hsl]
        simp only [Buf.hp] at this
        rw [ha] at this
        exact this
  · -- there is none
    have hold : (Builtin.firstCells inf.size n (.slice b.a n b.cap)).run P w.drew = .ok l.toArray w.drew := by
      rcases (Rd.appR (G := A) (Rd.appL (O := B) (Buf.rd (e := e) (h := h) hb))).cells hv.drew with h0 | ⟨ha, hc⟩
      · have hn0 : l.length = 0 := by rw [h0]; rfl
        cases ha : b.a with
        | none => rw [run_firstCells_none, h0]
        | some a0 => exact run_firstCells_some _ _ _ _ _ _ l hb.1 (by rw [h0]; simp)
      · rw [ha]; exact run_firstCells_some _ _ _ _ _ _ l hb.1 hc
    have hg : b.cap < n + m := by omega
    have hrun := run_append_grow_src (P := P) w t t2 ty e inf z hu hi hz b.a n b.cap l hold y m ys hsrc hg (by omega) (growslice_fits hg hfit)
    have hge := grownCap_ge w (n + m) b.cap e
    generalize hcap : grownCap w (n + m) b.cap e = cap at hrun hge
    have hzero : Builtin.zeroCells z.cells (cap - (n + m)) = ⟨rows (cap - (n + m)) (cellsL z)⟩ := by
      unfold Builtin.zeroCells
      rw [cells_arr]
      exact zeroRow (cellsL z) _ _ rfl
    have hobj : ((l ++ ys).toArray ++ Builtin.zeroCells z.cells (cap - (n + m)) : Array Value) = ⟨l ++ ys ++ rows (cap - (n + m)) (cellsL z)⟩ := by
      rw [hzero]; apply Array.ext'; simp
    rw [hobj] at hrun
    obtain ⟨st, f1, f2⟩ := Step.alloc (w' := w.drew.alloc (.cells ⟨l ++ ys ++ rows (cap - (n + m)) (cellsL z)⟩ e)) (obj := .cells ⟨l ++ ys ++ rows (cap - (n + m)) (cellsL z)⟩ e) hv rfl rfl rfl rfl
    let b' : Buf := ⟨some ⟨w.heap.size, 0, none⟩, cap, rows (cap - (n + m)) (cellsL z), (0, 0)⟩
    have hk' := hk b' ⟨hlys, .inr ⟨rfl, hge, by simp only [b', rows_length, hzl], .inl (Nat.le_refl _)⟩⟩
    rw [hf] at hk'
    refine ⟨_, _, h, _, hrun, st.postWk ?_, hk'⟩
    have hsub : ((w.heap.size, Obj.cells ⟨l ++ ys ++ rows (cap - (n + m)) (cellsL z)⟩ e (0, 0)) :: (A ++ B)).Sublist ((w.heap.size, Obj.cells ⟨l ++ ys ++ rows (cap - (n + m)) (cellsL z)⟩ e (0, 0)) :: (A ++ (b.hp e l ++ B))) :=
      List.Sublist.cons_cons _ (List.Sublist.append (List.Sublist.refl _) (List.sublist_append_right _ _))
    refine (Wk.drop hsub).trans (Wk.perm ?_)
    exact (List.perm_middle (l₁ := A) (l₂ := B)).symm
end Gv
end Go
/- Rules: rows that are made whole, copies, parts of slices. -/
namespace Go
namespace Gv
variable {P : Program}

theorem MakeSt.n {inf : TypeInfo} {e : TypeId} {x y : Int} {n : Nat} {h : View} {O : Hp} {K : Value → View → Hp → Prop} (hx : x = n) (hy : y = n) (hb : inf.bytes * n ≤ 281474976710656) (h3 : n ≤ 9223372036854775807) (z : List Value)
    (hz : zeroCellsOf inf = some z) (hs : z.length = inf.size) (hk : ∀ b, h b = none → (∀ o, (b, o) ∉ O) → K (.slice (some ⟨b, 0, none⟩) n n) h ((b, .cells ⟨rows n z⟩ e (0, 0)) :: O)) : MakeSt inf e x y h O K := by
  subst hx hy
  refine .mk (by omega) (by omega) (by rw [← Int.natCast_mul]; omega) (by omega) z hz hs (.mk fun b h1 h2 => ?_)
  have := hk b h1 h2
  simpa using this
theorem rows_map {α : Type} {g : α → Value} {d : α} (n : Nat) : rows n [g d] = (List.replicate n d).map g := by rw [rows_one, List.map_replicate]
theorem MakeSt.iN {inf : TypeInfo} {e : TypeId} {x y : Int} {n : Nat} {h : View} {O : Hp} {K : Value → View → Hp → Prop} (hz : zeroCellsOf inf = some [Gv.iN 0]) (hs : 1 = inf.size) (hx : x = n) (hy : y = n) (hb : inf.bytes * n ≤ 281474976710656) (h3 : n ≤ 9223372036854775807)
    (hk : ∀ b, h b = none → (∀ o, (b, o) ∉ O) → K (.slice (some ⟨b, 0, none⟩) n n) h ((b, .cells ⟨(List.replicate n 0).map Gv.iN⟩ e (0, 0)) :: O)) : MakeSt inf e x y h O K :=
  .n hx hy hb h3 _ hz hs fun b h1 h2 => by rw [rows_map]; exact hk b h1 h2
theorem MakeSt.bN {inf : TypeInfo} {e : TypeId} {x y : Int} {n : Nat} {h : View} {O : Hp} {K : Value → View → Hp → Prop} (hz : zeroCellsOf inf = some [Gv.bN 0]) (hs : 1 = inf.size) (hx : x = n) (hy : y = n) (hb : inf.bytes * n ≤ 281474976710656) (h3 : n ≤ 9223372036854775807)
    (hk : ∀ b, h b = none → (∀ o, (b, o) ∉ O) → K (.slice (some ⟨b, 0, none⟩) n n) h ((b, .cells ⟨(List.replicate n 0).map Gv.bN⟩ e (0, 0)) :: O)) : MakeSt inf e x y h O K :=
  .n hx hy hb h3 _ hz hs fun b h1 h2 => by rw [rows_map]; exact hk b h1 h2
theorem MakeSt.sV {inf : TypeInfo} {e : TypeId} {x y : Int} {n : Nat} {h : View} {O : Hp} {K : Value → View → Hp → Prop} (hz : zeroCellsOf inf = some [Gv.sV []]) (hs : 1 = inf.size) (hx : x = n) (hy : y = n) (hb : inf.bytes * n ≤ 281474976710656) (h3 : n ≤ 9223372036854775807)
    (hk : ∀ b, h b = none → (∀ o, (b, o) ∉ O) → K (.slice (some ⟨b, 0, none⟩) n n) h ((b, .cells ⟨(List.replicate n []).map Gv.sV⟩ e (0, 0)) :: O)) : MakeSt inf e x y h O K :=
  .n hx hy hb h3 _ hz hs fun b h1 h2 => by rw [rows_map]; exact hk b h1 h2
theorem LoadSt.ownd {α : Type} [Inhabited α] {h : View} {O : Hp} {b off j : Nat} {g : α → Value} {xs : List α} {ty : TypeId} {fr : Nat × Nat} {K : Value → Prop} (m : (b, Obj.cells ⟨xs.map g⟩ ty fr) ∈ O) (ho : off = j) (hj : j < xs.length)
    (hk : K (g (xs.getD j default))) : LoadSt h O b off none K := .ownm default m ho hj hk
theorem LoadSt.ownN {h : View} {O : Hp} {b off j : Nat} {g : Nat → Value} {xs : List Nat} {ty : TypeId} {fr : Nat × Nat} {K : Value → Prop} (m : (b, Obj.cells ⟨xs.map g⟩ ty fr) ∈ O) (ho : off = j) (hj : j < xs.length)
    (hk : K (g (xs.getD j 0))) : LoadSt h O b off none K := .ownm 0 m ho hj hk
theorem LoadSt.rdN {h : View} {O : Hp} {a : Option Addr} {g : Nat → Value} {xs : List Nat} {k : Nat} {K : Value → Prop} (H : Rd h O a (xs.map g)) (hj : k < xs.length) (hk : K (g (xs.getD k 0))) :
    LoadSt h O (blk a) (ofs a + k) none K := .rdm H hj hk
theorem LoadSt.rdS {h : View} {O : Hp} {a : Option Addr} {g : List UInt8 → Value} {xs : List (List UInt8)} {k : Nat} {K : Value → Prop} (H : Rd h O a (xs.map g)) (hj : k < xs.length) (hk : K (g (xs.getD k []))) :
    LoadSt h O (blk a) (ofs a + k) none K := .rdm H hj hk
theorem StoreSt.mapd {α : Type} {h : View} {O : Hp} {b off j : Nat} {vs : List Value} {g : α → Value} {xs : List α} {x : α} {ty : TypeId} {fr : Nat × Nat} {f : List Value → Hp} {K : View → Hp → Prop} (u : Upd O b (xs.map g) ty fr f)
    (ho : off = j) (hv : vs = [g x]) (h1 : (g x).oneCell' = true) (hj : j < xs.length) (hf : fr.2 ≤ fr.1 ∨ off + 1 ≤ fr.1) (hk : K h (f ((xs.set j x).map g))) : StoreSt h O b off vs K := by
  subst hv; exact .map u ho hj hf rfl h1 hk
theorem Upd.rd {O : Hp} {b : Nat} {l : List Value} {ty : TypeId} {fr : Nat × Nat} {f : List Value → Hp} (u : Upd O b l ty fr f) {h : View} : Rd h O (some ⟨b, 0, none⟩) l := by
  obtain ⟨O1, O2, rfl, _⟩ := u.parts
  exact Rd.own0 (ty := ty) (fr := fr) (by simp)

/-! ### copy -/
theorem RdCells.str {h : View} {O : Hp} {l : List UInt8} {n : Nat} : RdCells P h O (.string ⟨⟨l⟩⟩) 1 n ((l.take n).map byteV) := by
  intro w _
  simp only [Builtin.firstCells, Sem.run_pure]
  congr 1
  apply Array.ext'
  simp [ByteArray.data_extract, List.extract_eq_take_drop]
  rfl
theorem RdCells.rd {h : View} {O : Hp} {a : Option Addr} {l : List Value} {len cap n sz : Nat} (H : Rd h O a l) (hl : n * sz ≤ l.length) : RdCells P h O (.slice a len cap) sz n (l.take (n * sz)) := by
  intro w hv
  have hlen : (l.take (n * sz)).length = n * sz := by simp; omega
  rcases (H.take (n * sz)).cells hv with h0 | ⟨ha, hc⟩
  · have h1 : n * sz = 0 := by rw [← hlen, h0]; rfl
    cases a with
    | none => rw [run_firstCells_none, h0]
    | some a => exact run_firstCells_some w _ _ _ _ _ _ hlen (by rw [h0]; simp)
  · rw [ha]; exact run_firstCells_some w _ _ _ _ _ _ hlen hc
/-- Bytes of a string into a row of bytes. -/
theorem CopySt.str {e : TypeId} {h : View} {O : Hp} {b o dlen cap : Nat} {l : List UInt8} {xs : List Nat} {ty : TypeId} {fr : Nat × Nat} {f : List Value → Hp} {K : Value → View → Hp → Prop} (u : Upd O b (xs.map bN) ty fr f) (hb : o + dlen ≤ xs.length) (hfr : fr.2 ≤ fr.1 ∨ o + dlen ≤ fr.1)
    (hk : K (.int .i64 (min l.length dlen : Nat)) h (f ((xs.take o ++ (l.take (min l.length dlen)).map UInt8.toNat ++ xs.drop (o + min l.length dlen)).map bN))) : CopySt P e 1 (.slice (some ⟨b, o, Option.none⟩) dlen cap) (.string ⟨⟨l⟩⟩) h O K := by
  have hlen : ((l.take (min l.length dlen)).map byteV).length = min l.length dlen := by simp
  refine .mk (min l.length dlen) dlen cap b o _ rfl l.length (fun w => rfl) rfl (RdCells.str) (.own u ?_ (by rw [hlen]; omega) ?_ ?_)
  · rw [hlen]; simp; omega
  · rw [List.all_eq_true]; intro v hv; obtain ⟨c, _, rfl⟩ := List.mem_map.1 hv; rfl
  · have e : setRange (xs.map bN) o ((l.take (min l.length dlen)).map byteV) = (xs.take o ++ (l.take (min l.length dlen)).map UInt8.toNat ++ xs.drop (o + min l.length dlen)).map bN := by
      apply List.ext_getElem?
      intro i
      rw [setRange_get, hlen]
      have h2 : ((l.take (min l.length dlen)).map UInt8.toNat).length = min l.length dlen := by simp
      simp only [List.map_append, List.append_assoc]
      by_cases h3 : i < o
      · rw [if_neg (by omega), List.getElem?_append_left (by simp; omega)]
        simp [h3]
      · have h4 : (List.map bN (xs.take o)).length = o := by simp; omega
        rw [List.getElem?_append_right (by omega), h4]
        by_cases h5 : i < o + min l.length dlen
        · rw [if_pos (by simp; omega), List.getElem?_append_left (by simp; omega)]
          simp only [List.getElem?_map, Option.map_map]
          rfl
        · rw [if_neg (by omega), List.getElem?_append_right (by simp; omega)]
          simp only [List.map_drop, List.getElem?_drop, List.length_map, h2, List.getElem?_map]
          congr 2
          omega
    rw [e]; exact hk

/-! ### parts of slices and strings -/
theorem SlSl.lo {a : Option Addr} {len cap sz l : Nat} {k : IntKind} {x : Int} {K : Value → Prop} (hx : x = l) (h1 : l ≤ len) (h2 : len ≤ cap) (hk : K (.slice (if cap = l then a else a.map (·.add (l * sz))) (len - l) (cap - l))) : SlSl a len cap (some (.int k x)) none none sz K := by
  subst hx
  exact .mk l len cap (.inr ⟨k, rfl⟩) (.inl ⟨rfl, rfl, rfl⟩) (.inl ⟨rfl, rfl⟩) h1 h2 (Nat.le_refl _) hk
theorem SlSl.hi {a : Option Addr} {len cap sz r : Nat} {k : IntKind} {x : Int} {K : Value → Prop} (hx : x = r) (h1 : r ≤ cap) (hk : K (.slice a r cap)) : SlSl a len cap none (some (.int k x)) none sz K := by
  subst hx
  refine .mk 0 r cap (.inl ⟨rfl, rfl⟩) (.inr ⟨k, rfl⟩) (.inl ⟨rfl, rfl⟩) (Nat.zero_le _) h1 (Nat.le_refl _) ?_
  have e : (if cap = 0 then a else a.map (·.add (0 * sz))) = a := by
    split
    · rfl
    · cases a with
      | none => rfl
      | some a => rw [Nat.zero_mul]; show some (a.add 0) = some a; rcases a with ⟨b, o, s⟩; cases s <;> rfl
  rw [e]; exact hk
theorem StrSl.lo {l : List UInt8} {n : Nat} {k : IntKind} {x : Int} {K : Value → Prop} (hx : x = n) (h : n ≤ l.length) (hk : K (sV (l.drop n))) : StrSl l (some (.int k x)) none K := by
  subst hx
  exact .mk n l.length (.inr ⟨k, rfl⟩) (.inl ⟨rfl, rfl⟩) h (Nat.le_refl _) (by rw [List.take_length]; exact hk)
theorem StrSl.hi {l : List UInt8} {n : Nat} {k : IntKind} {x : Int} {K : Value → Prop} (hx : x = n) (h : n ≤ l.length) (hk : K (sV (l.take n))) : StrSl l none (some (.int k x)) K := by
  subst hx
  exact .mk 0 n (.inl ⟨rfl, rfl⟩) (.inr ⟨k, rfl⟩) (Nat.zero_le _) h (by rw [List.drop_zero]; exact hk)
theorem StrSl.lohi {l : List UInt8} {n m : Nat} {k k' : IntKind} {x y : Int} {K : Value → Prop} (hx : x = n) (hy : y = m) (h1 : n ≤ m) (h : m ≤ l.length) (hk : K (sV ((l.take m).drop n))) : StrSl l (some (.int k x)) (some (.int k' y)) K := by
  subst hx hy
  exact .mk n m (.inr ⟨k, rfl⟩) (.inr ⟨k', rfl⟩) h1 h hk

/-! ### bytes -/
theorem bN_byte {l : List Nat} (h : ∀ x ∈ l, x < 256) : l.map bN = (l.map UInt8.ofNat).map byteV := by
  rw [List.map_map]
  refine List.map_congr_left fun x hx => ?_
  have := h x hx
  simp [bN, byteV]; omega
theorem ToStr.bytes {h : View} {O : Hp} {a : Option Addr} {len cap : Nat} {K : Value → Prop} {l : List Nat} (H : Rd h O a (l.map bN)) (hb : ∀ x ∈ l, x < 256) (hl : l.length = len) (hk : K (sV (l.map UInt8.ofNat))) : ToStr h O (.slice a len cap) K :=
  .rdm (l.map UInt8.ofNat) (by rw [← bN_byte hb]; exact H) (by simpa using hl) hk
end Gv
end Go
/- Rules: equality of structs; maps; rows that are cleared or stored into; calls on a part of what is owned. -/
namespace Go
namespace Gv
variable {P : Program}

/-! ### equality -/
theorem EqSt.key {t : TypeId} {cx cy : List Value} {K : Bool → Prop} (m D : Nat) (lx ly : List Lit) (hk : P.keyTypeAt m t = true) (hm : m ≤ 10000) (hg : P.eqGuardType P.depth t = false)
    (fx : (Value.agg ⟨cx⟩).formed P t = true) (fy : (Value.agg ⟨cy⟩).formed P t = true) (hx : P.keyLits D t cx = some lx) (hy : P.keyLits D t cy = some ly) (p : Prop) [Decidable p] (hp : lx = ly ↔ p) (hK : K (decide p)) : EqSt P t (.agg ⟨cx⟩) (.agg ⟨cy⟩) K := by
  refine .mk _ hg (fun w => ?_) hK
  obtain ⟨r, h1, h2⟩ := run_equalIn_deep (P := P) (10000 - m) m t hk w D D (.agg ⟨cx⟩) (.agg ⟨cy⟩) lx ly fx fy hx hy
  rw [show 10000 - m + m = 10000 from by omega] at h1
  have : r = decide p := by
    cases r
    · rw [eq_comm, decide_eq_false_iff_not, ← hp]; intro e; exact absurd (h2.2 e) (by simp)
    · rw [eq_comm, decide_eq_true_iff, ← hp]; exact h2.1 rfl
  rw [← this]; exact h1

/-! ### parts -/
theorem Loc.one {x : Nat × Obj} {r : Hp} : Loc (x :: r) [x] (fun H' => H' ++ r) := ⟨[], r, rfl, fun _ => rfl⟩
theorem Loc.last {H : Hp} : Loc H H fun H' => H' := ⟨[], [], by simp, fun H' => by simp⟩
theorem Loc.wk {h : View} {O H : Hp} {f : Hp → Hp} (l : Loc O H f) : Wk h O h (H ++ f []) := by
  obtain ⟨A, B, rfl, hf⟩ := l.parts
  rw [hf]
  refine Wk.perm ?_
  simp only [List.nil_append]
  calc A ++ (H ++ B) = (A ++ H) ++ B := by simp
    _ |>.Perm ((H ++ A) ++ B) := List.Perm.append_right _ List.perm_append_comm
    _ = H ++ (A ++ B) := by simp
theorem Loc.wk' {h : View} {O H H' : Hp} {f : Hp → Hp} (l : Loc O H f) : Wk h (H' ++ f []) h (f H') := by
  obtain ⟨A, B, rfl, hf⟩ := l.parts
  rw [hf, hf]
  refine Wk.perm ?_
  simp only [List.nil_append]
  calc H' ++ (A ++ B) = (H' ++ A) ++ B := by simp
    _ |>.Perm ((A ++ H') ++ B) := List.Perm.append_right _ List.perm_append_comm
    _ = A ++ (H' ++ B) := by simp
/-- A call that turns one part of what is owned, and needs no other. -/
theorem CallSt.loc {f : FuncId} {args : List Value} {h : View} {O H : Hp} {K : Value → View → Hp → Prop} {R : Value → Hp → Prop} {φ : Hp → Hp} (l : Loc O H φ) (sp : GSpec P f args h H fun v _ O' => R v O') (hk : ∀ v O', R v O' → K v h (φ O')) : CallSt P f args h O K :=
  .part H (φ []) l.wk R sp fun v O' hR => ⟨φ O', l.wk', hk v O' hR⟩

/-! ### rows -/
theorem Upd.mid (A B : Hp) {b : Nat} {l : List Value} {ty : TypeId} {fr : Nat × Nat} : Upd (A ++ (b, .cells ⟨l⟩ ty fr) :: B) b l ty fr fun l' => A ++ (b, .cells ⟨l'⟩ ty fr) :: B := .app .hd
theorem Loc.upd {b : Nat} {l : List Value} {ty : TypeId} {fr : Nat × Nat} {O : Hp} {f : Hp → Hp} (L : Loc O [(b, .cells ⟨l⟩ ty fr)] f) : Upd O b l ty fr fun l' => f [(b, .cells ⟨l'⟩ ty fr)] := by
  obtain ⟨A, B, rfl, hf⟩ := L.parts
  have : (fun l' : List Value => f [(b, .cells ⟨l'⟩ ty fr)]) = fun l' => A ++ (b, .cells ⟨l'⟩ ty fr) :: B := by
    funext l'; rw [hf]; rfl
  rw [this]; exact Upd.mid A B
/-- One cell of a row. -/
theorem StoreSt.bufc {b : Buf} {e : TypeId} {l : List Value} {n sz i : Nat} {v : Value} {vs : List Value} {h : View} {O : Hp} {f : Hp → Hp} {off : Nat} {K : View → Hp → Prop} (hO : Loc O (b.hp e l) f) (hb : b.ok sz l n) (ho : off = ofs b.a + i) (hv : vs = [v])
    (hi : i < l.length) (h1 : v.oneCell' = true) (hk : K h (f (b.hp e (l.set i v)))) : StoreSt h O (blk b.a) off vs K := by
  subst hv
  obtain ⟨a, cap, pad, fr⟩ := b
  rcases hb with ⟨hl, ⟨ha, hc, hn⟩ | ⟨ha, hc, hp, hfr⟩⟩
  · simp only at ha hc hn
    subst hn; rw [Nat.zero_mul] at hl; omega
  · simp only at ha hc hp hfr
    have ha' : ofs a = 0 := by rw [ha]; rfl
    simp only [ha', Nat.zero_add] at ho
    subst ho
    have e1 : Buf.hp ⟨a, cap, pad, fr⟩ e l = [(blk a, .cells ⟨l ++ pad⟩ e fr)] := by rw [ha]; rfl
    rw [e1] at hO
    have hcap : off < cap * sz := by
      have : n * sz ≤ cap * sz := Nat.mul_le_mul_right _ hc
      omega
    refine .own hO.upd (by simp only [List.length_append, List.length_cons, List.length_nil]; omega) (by simp only [List.length_cons, List.length_nil]; rcases hfr with h | h <;> omega) (by simp [h1]) ?_
    have e2 : setRange (l ++ pad) off [v] = l.set off v ++ pad := by
      apply List.ext_getElem?
      intro j
      rw [setRange_get]
      by_cases h2 : j = off
      · subst h2
        rw [if_pos (by simp only [List.length_cons, List.length_nil, List.length_append]; omega), List.getElem?_append_left (by simpa using hi), List.getElem?_set_self hi]
        simp
      · rw [if_neg (by simp; omega)]
        by_cases h3 : j < l.length
        · rw [List.getElem?_append_left h3, List.getElem?_append_left (by simpa using h3), List.getElem?_set_ne (by omega)]
        · rw [List.getElem?_append_right (by omega), List.getElem?_append_right (by simp; omega), List.length_set]
    rw [e2]
    have e3 : Buf.hp ⟨a, cap, pad, fr⟩ e (l.set off v) = [(blk a, .cells ⟨l.set off v ++ pad⟩ e fr)] := by rw [ha]; rfl
    rw [e3] at hk; exact hk
theorem StoreSt.bufm {α : Type} {b : Buf} {e : TypeId} {g : α → Value} {xs : List α} {n i : Nat} {x : α} {vs : List Value} {h : View} {O : Hp} {f : Hp → Hp} {off : Nat} {K : View → Hp → Prop} (hO : Loc O (b.hp e (xs.map g)) f) (hb : b.ok 1 (xs.map g) n) (ho : off = ofs b.a + i) (hv : vs = [g x])
    (hi : i < xs.length) (h1 : (g x).oneCell' = true) (hk : K h (f (b.hp e ((xs.set i x).map g)))) : StoreSt h O (blk b.a) off vs K :=
  .bufc hO hb ho hv (by simpa using hi) h1 (by rw [← List.map_set]; exact hk)
/-- All cleared, and cut to nothing. -/
def Buf.cut (b : Buf) (n : Nat) (z : List Value) : Buf := ⟨b.a, b.cap, Gv.rows n z ++ b.pad, b.fr⟩
theorem Buf.cut_ok {b : Buf} {l z : List Value} {n sz : Nat} (hb : b.ok sz l n) (hz : z.length = sz) : (b.cut n z).ok sz [] 0 := by
  obtain ⟨hl, h | h⟩ := hb
  · exact ⟨by simp, .inl ⟨h.1, h.2.1, rfl⟩⟩
  · refine ⟨by simp, .inr ⟨h.1, Nat.zero_le _, ?_, h.2.2.2⟩⟩
    simp only [Buf.cut, List.length_append, rows_length, hz, h.2.2.1, Nat.sub_zero]
    rw [← Nat.add_mul]; congr 1; omega
theorem ClearSt.buf {inf : TypeInfo} {b : Buf} {e : TypeId} {l : List Value} {n : Nat} {h : View} {O : Hp} {f : Hp → Hp} {K : View → Hp → Prop} (hO : Loc O (b.hp e l) f) (hb : b.ok inf.size l n) (z : List Value) (hz : zeroCellsOf inf = Option.some z) (hs : z.length = inf.size)
    (h1 : z.all (·.oneCell') = true) (hk : K h (f ((b.cut n z).hp e []))) : ClearSt P inf (.slice b.a n b.cap) h O K := by
  obtain ⟨a, cap, pad, fr⟩ := b
  have zero : n = 0 → f ((Buf.cut ⟨a, cap, pad, fr⟩ n z).hp e []) = O := by
    intro h0
    subst h0
    obtain ⟨A, B, rfl, hf⟩ := hO.parts
    have : l = [] := List.eq_nil_of_length_eq_zero (by have := hb.1; simpa using this)
    subst this
    rw [hf]; rfl
  rcases hb with ⟨hl, ⟨ha, hc, hn⟩ | ⟨ha, hc, hp, hfr⟩⟩
  · simp only at ha hc hn
    rw [zero hn] at hk
    subst hn
    exact .none a cap rfl hk
  · simp only at ha hc hp hfr
    by_cases hn : n = 0
    · rw [zero hn] at hk
      subst hn
      exact .none a cap rfl hk
    · have e1 : Buf.hp ⟨a, cap, pad, fr⟩ e l = [(blk a, .cells ⟨l ++ pad⟩ e fr)] := by rw [ha]; rfl
      rw [e1] at hO
      have hcap : n * inf.size ≤ cap * inf.size := Nat.mul_le_mul_right _ hc
      refine .some (blk a) 0 n cap z (by show Value.slice a n cap = _; rw [← ha]) hz (.own hO.upd ?_ ?_ ?_ ?_)
      · rw [rows_length, hs, Nat.zero_add, ← hl]; simp
      · rw [rows_length, hs]; rcases hfr with h | h <;> omega
      · rw [List.all_eq_true] at h1 ⊢
        intro v hv
        unfold rows at hv
        obtain ⟨r, hr, hv⟩ := List.mem_flatten.1 hv
        rw [(List.mem_replicate.1 hr).2] at hv
        exact h1 v hv
      · have e2 : setRange (l ++ pad) 0 (rows n z) = rows n z ++ pad := by
          apply List.ext_getElem?
          intro j
          rw [setRange_get, rows_length, hs]
          by_cases h2 : j < n * inf.size
          · rw [if_pos (by simp; omega), List.getElem?_append_left (by rw [rows_length, hs]; exact h2)]
            simp
          · rw [if_neg (by simp; omega), List.getElem?_append_right (by omega), List.getElem?_append_right (by rw [rows_length, hs]; omega), rows_length, hs, hl]
        rw [e2]
        have e3 : Buf.hp (Buf.cut ⟨a, cap, pad, fr⟩ n z) e [] = [(blk a, .cells ⟨rows n z ++ pad⟩ e fr)] := by
          simp only [Buf.cut]; rw [ha]; rfl
        rw [e3] at hk; exact hk
/-- Bytes as numbers. -/
def nb (l : List UInt8) : List Nat := l.map UInt8.toNat
/-- The bytes of a string, in a row of its own. -/
def Buf.bytes (b cap k : Nat) : Buf := ⟨some ⟨b, 0, none⟩, cap, List.replicate k (.int .u8 0), (cap, cap + 1)⟩
theorem BytesSt.buf {e : TypeId} {l : List UInt8} {h : View} {O : Hp} {K : Value → View → Hp → Prop}
    (hk : ∀ b : Buf, b.ok 1 (l.map byteV) l.length → K (.slice b.a l.length b.cap) h (b.hp e (l.map byteV) ++ O)) : BytesSt e l h O K :=
  .mk fun b cap k _ _ hcap => hk (Buf.bytes b cap k) ⟨by simp, .inr ⟨rfl, by show l.length ≤ cap; omega, by simp [Buf.bytes]; omega, .inr (by simp [Buf.bytes])⟩⟩
theorem BytesSt.nat {e : TypeId} {l : List UInt8} {h : View} {O : Hp} {K : Value → View → Hp → Prop}
    (hk : ∀ b cap k, cap = l.length + k → K (.slice (some ⟨b, 0, none⟩) l.length cap) h ((b, .cells ⟨(nb l ++ List.replicate k 0).map bN⟩ e (cap, cap + 1)) :: O)) : BytesSt e l h O K :=
  .mk fun b cap k _ _ hcap => by
    have := hk b cap k hcap
    have e : (nb l ++ List.replicate k 0).map bN = l.map byteV ++ List.replicate k (.int .u8 0) := by
      rw [nb, List.map_append, List.map_map, List.map_replicate]; rfl
    rw [e] at this; exact this

theorem StrIdx.m {l : List UInt8} {i : Int} {j : Nat} {K : Value → Prop} (hi : i = j) (hl : j < l.length) (hk : K (bN ((nb l).getD j 0))) : StrIdx l i K :=
  .n hi hl (by
    have : (nb l).getD j 0 = (l.getD j 0).toNat := by
      simp only [nb, List.getD_eq_getElem?_getD, List.getElem?_map]
      cases l[j]? <;> rfl
    rw [← this]; exact hk)
/-! ### maps -/
set_option linter.unusedSectionVars false
set_option linter.unusedVariables false
section
variable {κ α : Type} [DecidableEq κ]
def mapEs (g : κ → Value) (v : α → Value) : Nat → List (κ × α) → List MapEntry
  | _, [] => []
  | i, (k, x) :: r => ⟨g k, v x, i⟩ :: mapEs g v (i + 1) r
def mapObj (g : κ → Value) (v : α → Value) (l : List (κ × α)) : Obj := .map ⟨mapEs g v 0 l⟩ l.length
def aget (l : List (κ × α)) (k : κ) : Option α := (l.find? fun p => p.1 = k).map Prod.snd
def aput : List (κ × α) → κ → α → List (κ × α)
  | [], k, x => [(k, x)]
  | (k', y) :: r, k, x => if k' = k then (k, x) :: r else (k', y) :: aput r k x
theorem aget_put (l : List (κ × α)) (k k' : κ) (x : α) : aget (aput l k x) k' = if k = k' then some x else aget l k' := by
  induction l with
  | nil => by_cases h : k = k' <;> simp [aput, aget, h]
  | cons p r ih =>
    obtain ⟨a, y⟩ := p
    unfold aput
    by_cases h1 : a = k
    · subst h1
      by_cases h2 : a = k' <;> simp [aget, h2]
    · rw [if_neg h1]
      by_cases h2 : a = k'
      · subst h2
        have : ¬ k = a := fun e => h1 e.symm
        simp [aget, this]
      · unfold aget at ih ⊢
        rw [List.find?_cons_of_neg (by simpa using h2), List.find?_cons_of_neg (by simpa using h2)]
        exact ih
theorem mapEs_get (g : κ → Value) (v : α → Value) : ∀ (l : List (κ × α)) (i j : Nat), (mapEs g v i l)[j]? = l[j]?.map fun p => ⟨g p.1, v p.2, i + j⟩
  | [], _, _ => rfl
  | (k, x) :: r, i, 0 => rfl
  | (k, x) :: r, i, j + 1 => by
    show (mapEs g v (i + 1) r)[j]? = _
    rw [mapEs_get g v r (i + 1) j, List.getElem?_cons_succ]
    congr 1; funext p; congr 1; omega
theorem mapEs_len (g : κ → Value) (v : α → Value) : ∀ (l : List (κ × α)) (i : Nat), (mapEs g v i l).length = l.length
  | [], _ => rfl
  | _ :: r, i => by simp [mapEs, mapEs_len g v r]
theorem mapEs_mem {g : κ → Value} {v : α → Value} {l : List (κ × α)} {i : Nat} {e : MapEntry} (h : e ∈ mapEs g v i l) : ∃ p ∈ l, e.key = g p.1 ∧ e.val = v p.2 := by
  obtain ⟨j, hj⟩ := List.getElem?_of_mem h
  rw [mapEs_get] at hj
  cases hp : l[j]? with
  | none => rw [hp] at hj; cases hj
  | some p => rw [hp] at hj; cases hj; exact ⟨p, List.mem_of_getElem? hp, rfl, rfl⟩
/-- Keys that are all different. -/
def akeys (l : List (κ × α)) : Prop := (l.map Prod.fst).Nodup
theorem aput_mem : ∀ {l : List (κ × α)} {k : κ} {x : α} {q : κ}, q ∈ (aput l k x).map Prod.fst → q = k ∨ q ∈ l.map Prod.fst
  | [], k, x, q, h => by simp [aput] at h; exact .inl h
  | (a, y) :: r, k, x, q, h => by
    unfold aput at h
    split at h
    · rename_i e; subst e
      rcases List.mem_cons.1 h with h | h
      · exact .inl h
      · exact .inr (List.mem_cons_of_mem _ h)
    · rcases List.mem_cons.1 h with h | h
      · exact .inr (by rw [h]; exact List.mem_cons_self)
      · rcases aput_mem h with h | h
        · exact .inl h
        · exact .inr (List.mem_cons_of_mem _ h)
theorem akeys.put : ∀ {l : List (κ × α)} (k : κ) (x : α), akeys l → akeys (aput l k x)
  | [], k, x, _ => by simp [aput, akeys]
  | (a, y) :: r, k, x, h => by
    unfold akeys at h ⊢
    rw [List.map_cons, List.nodup_cons] at h
    unfold aput
    split
    · rename_i e; subst e; rw [List.map_cons, List.nodup_cons]; exact h
    · rename_i e
      rw [List.map_cons, List.nodup_cons]
      refine ⟨fun hm => ?_, akeys.put k x h.2⟩
      rcases aput_mem hm with h1 | h1
      · exact e h1
      · exact h.1 h1
theorem aget_of : ∀ {l : List (κ × α)} {j : Nat} {k : κ} {x : α}, akeys l → l[j]? = some (k, x) → aget l k = some x
  | [], _, _, _, _, h => by simp at h
  | (a, y) :: r, 0, k, x, _, h => by simp at h; obtain ⟨rfl, rfl⟩ := h; simp [aget]
  | (a, y) :: r, j + 1, k, x, h0, h => by
    unfold akeys at h0
    rw [List.map_cons, List.nodup_cons] at h0
    rw [List.getElem?_cons_succ] at h
    have : ¬ a = k := fun e => h0.1 (by rw [e]; exact List.mem_map.2 ⟨_, List.mem_of_getElem? h, rfl⟩)
    unfold aget
    rw [List.find?_cons_of_neg (by simpa using this)]
    exact aget_of h0.2 h
theorem aget_no : ∀ {l : List (κ × α)} {k : κ}, (∀ p ∈ l, p.1 ≠ k) → aget l k = none
  | [], _, _ => rfl
  | (a, y) :: r, k, h => by
    unfold aget
    rw [List.find?_cons_of_neg (by simpa using h (a, y) (by simp))]
    exact aget_no fun p hp => h p (by simp [hp])
theorem aput_no : ∀ {l : List (κ × α)} {k : κ} {x : α}, (∀ p ∈ l, p.1 ≠ k) → aput l k x = l ++ [(k, x)]
  | [], _, _, _ => rfl
  | (a, y) :: r, k, x, h => by
    unfold aput
    rw [if_neg (h (a, y) (by simp)), aput_no fun p hp => h p (by simp [hp])]; rfl
theorem aput_at : ∀ {l : List (κ × α)} {j : Nat} {k : κ} {y x : α}, akeys l → l[j]? = some (k, y) → aput l k x = l.set j (k, x)
  | [], _, _, _, _, _, h => by simp at h
  | (a, y) :: r, 0, k, _, x, _, h => by simp at h; obtain ⟨rfl, rfl⟩ := h; simp [aput]
  | (a, y) :: r, j + 1, k, _, x, h0, h => by
    unfold akeys at h0
    rw [List.map_cons, List.nodup_cons] at h0
    rw [List.getElem?_cons_succ] at h
    have : ¬ a = k := fun e => h0.1 (by rw [e]; exact List.mem_map.2 ⟨_, List.mem_of_getElem? h, rfl⟩)
    unfold aput
    rw [if_neg this, aput_at h0.2 h]; rfl

/-- What is found of the entries. -/
theorem run_find {kt : TypeId} (Kd : Maps.Keyed P kt) {g : κ → Value} {v : α → Value} (hg : ∀ k, ∃ l, keyOf P kt (g k) = some l) (hi : ∀ a b, g a = g b → a = b) {l : List (κ × α)} (hl : akeys l) (k : κ) (w : World) :
    ((Instr.findKey kt (g k) (mapEs g v 0 l)).run P w = .ok none w ∧ ∀ p ∈ l, p.1 ≠ k) ∨
    ∃ j x, (Instr.findKey kt (g k) (mapEs g v 0 l)).run P w = .ok (some (j, v x)) w ∧ l[j]? = some (k, x) := by
  obtain ⟨lk, hlk⟩ := hg k
  rcases Kd.find w hlk (mapEs g v 0 l) (fun e he => by obtain ⟨p, _, h1, _⟩ := mapEs_mem he; rw [h1]; exact hg p.1) with ⟨h1, h2⟩ | ⟨j, e, h1, h2, h3⟩
  · refine .inl ⟨h1, fun p hp => ?_⟩
    intro e
    obtain ⟨j, hj⟩ := List.getElem?_of_mem hp
    have : (mapEs g v 0 l)[j]? = some ⟨g p.1, v p.2, 0 + j⟩ := by rw [mapEs_get, hj]; rfl
    exact h2 _ (List.mem_of_getElem? this) (by rw [e])
  · rw [mapEs_get] at h2
    cases hp : l[j]? with
    | none => rw [hp] at h2; cases h2
    | some p =>
      rw [hp] at h2
      cases h2
      obtain ⟨k', x⟩ := p
      have := hi _ _ h3
      simp only at this
      subst this
      exact .inr ⟨j, x, h1, hp⟩
theorem LookSt.own {h : View} {O : Hp} {t kt e : TypeId} {b : Nat} {g : κ → Value} {v : α → Value} {l : List (κ × α)} {k : κ} {key : Value} {ok : Bool} {K : Value → Prop} (m : (b, mapObj g v l) ∈ O) (ht : P.underlying t = some (.map kt e)) (Kd : Maps.Keyed P kt)
    (hg : ∀ k, ∃ l, keyOf P kt (g k) = some l) (hi : ∀ a b, g a = g b → a = b) (hl : akeys l) (hkey : key = g k) (z : Value) (hz : ∀ w, (zeroValue e).run P w = .ok z w)
    (h1 : ∀ x, aget l k = some x → K (if ok then .tuple #[v x, .bool true] else v x)) (h0 : aget l k = none → K (if ok then .tuple #[z, .bool false] else z)) : LookSt P h O t (.map (some b)) key ok K := by
  subst hkey
  have run : ∀ (w : World), Val h O w → ∀ r, (Instr.findKey kt (g k) (mapEs g v 0 l)).run P w = .ok r w → (Instr.lookup t (.map (some b)) (g k) ok).run P w = .ok (match r with
      | some (_, v) => if ok then .tuple #[v, .bool true] else v
      | none => if ok then .tuple #[z, .bool false] else z) w := by
    intro w hv r hr
    obtain ⟨lk, hlk⟩ := hg k
    have hb : w.heap[b]? = some (mapObj g v l) := hv.own _ _ m
    have hc := Kd.check w (⟨mapEs g v 0 l⟩ : Array MapEntry).isEmpty hlk
    have hgo := MapKept.run_getObj_map (P := P) hb
    simp only [List.isEmpty_toArray] at hc
    cases r with
    | none => simp [Instr.lookup, run_underlying ht, hgo, hc, hr, hz, Result.andThen]
    | some q => obtain ⟨j, q⟩ := q; simp [Instr.lookup, run_underlying ht, hgo, hc, hr, Result.andThen]
  cases hag : aget l k with
  | none =>
    refine .mk _ (fun w hv => ?_) (h0 hag)
    rcases run_find Kd (v := v) hg hi hl k w with ⟨h2, h3⟩ | ⟨j, x, h2, h3⟩
    · exact run w hv _ h2
    · rw [aget_of hl h3] at hag; cases hag
  | some x =>
    refine .mk _ (fun w hv => ?_) (h1 x hag)
    rcases run_find Kd (v := v) hg hi hl k w with ⟨h2, h3⟩ | ⟨j, x', h2, h3⟩
    · rw [aget_no h3] at hag; cases hag
    · rw [aget_of hl h3] at hag
      cases hag
      exact run w hv _ h2
theorem MapUp.own {h : View} {O : Hp} {t kt e : TypeId} {b : Nat} {g : κ → Value} {v : α → Value} {l : List (κ × α)} {k : κ} {x : α} {key val : Value} {f : Hp → Hp} {K : View → Hp → Prop} (L : Loc O [(b, mapObj g v l)] f) (ht : P.underlying t = some (.map kt e)) (Kd : Maps.Keyed P kt)
    (hg : ∀ k, ∃ l, keyOf P kt (g k) = some l) (hi : ∀ a b, g a = g b → a = b) (hl : akeys l) (hkey : key = g k) (hval : val = v x) (hk : K h (f [(b, mapObj g v (aput l k x))])) : MapUp P t (.map (some b)) key val h O K := by
  subst hkey hval
  refine .mk fun w hv => ?_
  obtain ⟨A, B, rfl, hf⟩ := L.parts
  rw [hf] at hk
  have hb : w.heap[b]? = some (mapObj g v l) := hv.own _ _ (by simp)
  have hgo := MapKept.run_getObj_map (P := P) hb
  obtain ⟨lk, hlk⟩ := hg k
  have hc := Kd.check w false hlk
  have hst : ∀ o', (setObj b o').run P w = .ok () (putBlock w b o') := fun o' => MapKept.run_setObj_map (P := P) o' hb
  have fin : (Instr.mapUpdate t (.map (some b)) (g k) (v x)).run P w = .ok () (putBlock w b (mapObj g v (aput l k x))) := by
    rcases run_find Kd (v := v) hg hi hl k w with ⟨h2, h3⟩ | ⟨j, x', h2, h3⟩
    · have eo : Obj.map (mapEs g v 0 l ++ [(⟨g k, v x, l.length⟩ : MapEntry)]).toArray (l.length + 1) = mapObj g v (aput l k x) := by
        rw [aput_no h3]
        unfold mapObj
        congr 1
        · apply Array.ext'
          apply List.ext_getElem?
          intro i
          rw [mapEs_get]
          rcases Nat.lt_trichotomy i l.length with h4 | h4 | h4
          · rw [List.getElem?_append_left (by rw [mapEs_len]; exact h4), mapEs_get, List.getElem?_append_left h4]
          · subst h4
            rw [List.getElem?_append_right (by rw [mapEs_len]; omega), mapEs_len, List.getElem?_append_right (Nat.le_refl _), Nat.sub_self]
            simp
          · rw [List.getElem?_eq_none (by simp [mapEs_len]; omega), List.getElem?_eq_none (by simp; omega)]; rfl
        · simp
      simp [Instr.mapUpdate, run_underlying ht, hgo, hc, h2, Result.andThen]
      rw [eo]; exact hst _
    · have hs := Kd.stays w hlk
      have hj : (mapEs g v 0 l)[j]? = some ⟨g k, v x', 0 + j⟩ := by rw [mapEs_get, h3]; rfl
      have eo : Obj.map ((mapEs g v 0 l).modify j fun e => { key := g k, val := v x, born := e.born }).toArray l.length = mapObj g v (aput l k x) := by
        rw [aput_at hl h3]
        unfold mapObj
        congr 1
        · apply Array.ext'
          apply List.ext_getElem?
          intro i
          rw [mapEs_get, List.getElem?_modify, mapEs_get, List.getElem?_set]
          by_cases h4 : j = i
          · subst h4
            have hlt : j < l.length := (List.getElem?_eq_some_iff.1 h3).1
            rw [h3]; simp [hlt]
          · simp [h4]
        · simp
      have hkey : ((((⟨mapEs g v 0 l⟩ : Array MapEntry)[j]?).map (·.key)).getD (g k)) = g k := by
        rw [List.getElem?_toArray, hj]; rfl
      simp [Instr.mapUpdate, run_underlying ht, hgo, hc, h2, hj, hs, Result.andThen]
      rw [eo]; exact hst _
  exact ⟨_, h, _, fin, Step.put (by simpa using hv), by simpa using hk⟩
end
end Gv
end Go
/- Rules: rows that grow by one element or by a row. -/
namespace Go
namespace Gv
variable {P : Program}

theorem AppSt.lit1 {α : Type} {g : α → Value} {x : α} {xs : List α} {n sb : Nat} {b : Buf} {t t2 ty e e2 ty' : TypeId} {fr : Nat × Nat} {inf : TypeInfo} {v : Value} {h : View} {O : Hp} {f : Hp → Hp} {K : Value → View → Hp → Prop}
    (hO : Loc O (b.hp e (xs.map g)) f) (hb : b.ok 1 (xs.map g) n) (hm : (sb, Obj.cells ⟨[v]⟩ ty' fr) ∈ O) (hv : v = g x) (h1 : (g x).oneCell' = true) (hu : P.underlying t2 = some (.slice e2)) (hsz : inf.size = 1) (z : Value) (hz : inf.zero = some z) (hzl : (cellsL z).length = 1)
    (hfit : (n + 1) * inf.bytes ≤ 140737488355328) (h63 : n + 1 ≤ 9223372036854775807) (hk : ∀ b' : Buf, b'.ok 1 ((xs ++ [x]).map g) (n + 1) → K (.slice b'.a (n + 1) b'.cap) h (f (b'.hp e ((xs ++ [x]).map g)))) :
    AppSt P t t2 ty e inf (.slice b.a n b.cap) (.slice (some ⟨sb, 0, none⟩) 1 1) h O K := by
  subst hv
  refine .buf (m := 1) (ys := [g x]) hO (by rw [hsz]; exact hb) (Srcs.rd (Rd.own0 hm) hu (by rw [hsz]; rfl) (by simp [h1]) (by simp)) z hz (by rw [hsz]; exact hzl) hfit h63 fun b' hb' => ?_
  have e1 : xs.map g ++ [g x] = (xs ++ [x]).map g := by simp
  rw [hsz, e1] at hb'
  rw [e1]
  exact hk b' hb'
theorem AppSt.litm {α : Type} {g : α → List Value} {x : α} {xs : List α} {n s sb : Nat} {b : Buf} {t t2 ty e e2 ty' : TypeId} {fr : Nat × Nat} {inf : TypeInfo} {vs : List Value} {h : View} {O : Hp} {f : Hp → Hp} {K : Value → View → Hp → Prop}
    (hO : Loc O (b.hp e (xs.flatMap g)) f) (hb : b.ok s (xs.flatMap g) n) (hm : (sb, Obj.cells ⟨vs⟩ ty' fr) ∈ O) (hv : vs = g x) (hg : (g x).length = s) (h1 : (g x).all (·.oneCell') = true) (hu : P.underlying t2 = some (.slice e2)) (hsz : inf.size = s) (z : Value) (hz : inf.zero = some z) (hzl : (cellsL z).length = s)
    (hfit : (n + 1) * inf.bytes ≤ 140737488355328) (h63 : n + 1 ≤ 9223372036854775807) (hk : ∀ b' : Buf, b'.ok s ((xs ++ [x]).flatMap g) (n + 1) → K (.slice b'.a (n + 1) b'.cap) h (f (b'.hp e ((xs ++ [x]).flatMap g)))) :
    AppSt P t t2 ty e inf (.slice b.a n b.cap) (.slice (some ⟨sb, 0, none⟩) 1 1) h O K := by
  subst hv
  refine .buf (m := 1) (ys := g x) hO (by rw [hsz]; exact hb) (Srcs.rd (Rd.own0 hm) hu (by rw [hsz, Nat.one_mul]; exact hg) h1 (by simp)) z hz (by rw [hsz]; exact hzl) hfit h63 fun b' hb' => ?_
  have e1 : xs.flatMap g ++ g x = (xs ++ [x]).flatMap g := by simp
  rw [hsz, e1] at hb'
  rw [e1]
  exact hk b' hb'
theorem AppSt.rowm {α : Type} {g : α → List Value} {xs ys : List α} {n m cap s : Nat} {b : Buf} {a : Option Addr} {t t2 ty e e2 : TypeId} {inf : TypeInfo} {h : View} {O : Hp} {f : Hp → Hp} {K : Value → View → Hp → Prop}
    (hO : Loc O (b.hp e (xs.flatMap g)) f) (hb : b.ok s (xs.flatMap g) n) (hr : Rd h O a (ys.flatMap g)) (hm : ys.length = m) (h0 : a = none → m = 0) (hg : ∀ x, (g x).length = s) (h1 : ∀ x, (g x).all (·.oneCell') = true) (hu : P.underlying t2 = some (.slice e2)) (hsz : inf.size = s) (z : Value) (hz : inf.zero = some z) (hzl : (cellsL z).length = s)
    (hfit : (n + m) * inf.bytes ≤ 140737488355328) (h63 : n + m ≤ 9223372036854775807) (hk : ∀ b' : Buf, b'.ok s ((xs ++ ys).flatMap g) (n + m) → K (.slice b'.a (n + m) b'.cap) h (f (b'.hp e ((xs ++ ys).flatMap g)))) :
    AppSt P t t2 ty e inf (.slice b.a n b.cap) (.slice a m cap) h O K := by
  refine .buf (m := m) (ys := ys.flatMap g) hO (by rw [hsz]; exact hb) (Srcs.rd hr hu (by rw [hsz, flat_length hg, hm]) (by
    rw [List.all_eq_true]; intro v hv
    obtain ⟨c, _, hc⟩ := List.mem_flatMap.1 hv
    exact List.all_eq_true.1 (h1 c) v hc) h0) z hz (by rw [hsz]; exact hzl) hfit h63 fun b' hb' => ?_
  rw [hsz, ← List.flatMap_append] at hb'
  rw [← List.flatMap_append]
  exact hk b' hb'
theorem Buf.ok_len {b : Buf} {l l' : List Value} {n sz : Nat} (hb : b.ok sz l n) (e : l'.length = l.length) : b.ok sz l' n := ⟨by rw [e]; exact hb.1, hb.2⟩
theorem Buf.addr {b : Buf} {l : List Value} {n sz : Nat} (hb : b.ok sz l n) (hn : 0 < n) : b.a = some ⟨blk b.a, ofs b.a, none⟩ := by
  rcases hb with ⟨_, h | h⟩
  · omega
  · rw [h.1]; rfl
theorem Buf.le {b : Buf} {l : List Value} {n sz : Nat} (hb : b.ok sz l n) : n ≤ b.cap := by
  rcases hb with ⟨_, h | h⟩ <;> omega
theorem Buf.none_len {b : Buf} {l : List Value} {n sz : Nat} (hb : b.ok sz l n) (h : b.a = none) : n = 0 := by
  rcases hb with ⟨_, h1 | h1⟩
  · exact h1.2.2
  · rw [h] at h1; cases h1.1
theorem IdxSl.buf1 {b : Buf} {l : List Value} {n len sz j : Nat} {i : Int} {K : Value → Prop} (hb : b.ok 1 l n) (hs : sz = 1) (hn : len = n) (hi : i = j) (hl : j < n)
    (hk : K (.pointer (some ⟨blk b.a, ofs b.a + j, none⟩))) : IdxSl b.a len i sz K := by
  subst hs hi hn
  exact .mk (by omega) (by omega) _ _ (Buf.addr hb (by omega)) (by simpa using hk)
theorem IdxSl.bufm {b : Buf} {l : List Value} {n len s sz j : Nat} {i : Int} {K : Value → Prop} (hb : b.ok s l n) (hs : sz = s) (hn : len = n) (hi : i = j) (hl : j < n)
    (hk : K (.pointer (some ⟨blk b.a, ofs b.a + j * s, none⟩))) : IdxSl b.a len i sz K := by
  subst hs hi hn
  exact .mk (by omega) (by omega) _ _ (Buf.addr hb (by omega)) (by simpa using hk)
theorem LoadSt.rdp {α : Type} [Inhabited α] {h : View} {O : Hp} {b off k : Nat} {g : α → Value} {xs : List α} {K : Value → Prop} (H : Rd h O (some ⟨b, 0, none⟩) (xs.map g)) (ho : off = k) (hj : k < xs.length) (hk : K (g (xs.getD k default))) : LoadSt h O b off none K := by
  subst ho
  have := LoadSt.rdm (k := off) (K := K) H hj hk
  simpa [blk, ofs] using this
theorem LoadSt.rdpN {h : View} {O : Hp} {b off k : Nat} {g : Nat → Value} {xs : List Nat} {K : Value → Prop} (H : Rd h O (some ⟨b, 0, none⟩) (xs.map g)) (ho : off = k) (hj : k < xs.length) (hk : K (g (xs.getD k 0))) : LoadSt h O b off none K := .rdp H ho hj hk
theorem IdxSl.rdg {α : Type} {g : α → List Value} {xs : List α} {h : View} {O : Hp} {a : Option Addr} {len sz s j : Nat} {i : Int} {K : Value → Prop} (H : Rd h O a (xs.flatMap g)) (hg : ∀ x, (g x).length = s) (h0 : 0 < s) (hs : sz = s) (hi : i = j) (hl : j < len) (hj : j < xs.length)
    (hk : K (.pointer (some ⟨blk a, ofs a + j * s, none⟩))) : IdxSl a len i sz K :=
  .rd s H hs hi hl (by rw [flat_length hg]; exact Nat.mul_pos (by omega) h0) hk
theorem LoadSt.rdg {α : Type} [Inhabited α] {h : View} {O : Hp} {a : Option Addr} {g : α → List Value} {xs : List α} {s k n : Nat} {K : Value → Prop} (hn : n = s) (H : Rd h O a (xs.flatMap g)) (hg : ∀ x, (g x).length = s) (hs : 0 < s) (hj : k < xs.length)
    (hk : K (.agg ⟨g (xs.getD k default)⟩)) : LoadSt h O (blk a) (ofs a + k * s) (some n) K := by
  subst hn; exact .rda H hg hs hj hk
theorem LoadSt.whole {l : List Value} {h : View} {O : Hp} {b n : Nat} {ty : TypeId} {fr : Nat × Nat} {K : Value → Prop} (m : (b, Obj.cells ⟨l⟩ ty fr) ∈ O) (hn : l.length = n) (hk : K (.agg ⟨l⟩)) : LoadSt h O b 0 (some n) K :=
  .agg K n _ (.own m) l hn (fun j v e => by rw [Nat.zero_add]; simpa [objCell] using e) hk
theorem AllocSt.as {h : View} {O : Hp} {c c' : List Value} {ty : TypeId} {fr : Nat × Nat} {K : Nat → View → Hp → Prop} (e : c = c') (hk : ∀ b, h b = none → (∀ o, (b, o) ∉ O) → K b h ((b, .cells ⟨c'⟩ ty fr) :: O)) : AllocSt h O (.cells ⟨c⟩ ty fr) K := by
  subst e; exact .mk hk
theorem SlSl.lohi {a : Option Addr} {len cap sz l r : Nat} {k k' : IntKind} {x y : Int} {K : Value → Prop} (hx : x = l) (hy : y = r) (h1 : l ≤ r) (h2 : r ≤ cap) (hk : K (.slice (if cap = l then a else a.map (·.add (l * sz))) (r - l) (cap - l))) : SlSl a len cap (some (.int k x)) (some (.int k' y)) none sz K := by
  subst hx hy
  exact .mk l r cap (.inr ⟨k, rfl⟩) (.inr ⟨k', rfl⟩) (.inl ⟨rfl, rfl⟩) h1 h2 (Nat.le_refl _) hk
/-- What is said of a part is said of the whole. -/
theorem GSpec.loc {f : FuncId} {args : List Value} {h : View} {O H : Hp} {R : Value → Hp → Prop} {φ : Hp → Hp} (l : Loc O H φ) (sp : GSpec P f args h H fun v _ O' => R v O') : GSpec P f args h O fun v _ O'' => ∃ O', R v O' ∧ O'' = φ O' := by
  refine ⟨sp.1, fun w hv => ?_⟩
  have hv2 : Val h (H ++ φ []) w := hv.wk l.wk
  have hv3 : Val h H w := hv2.wk (Wk.drop (List.sublist_append_left _ _))
  refine (sp.2 w hv3).mono fun e w' ⟨v, h', O', he, st, hR⟩ => ?_
  have st2 := st.frame hv2
  have st3 := (st2.wk l.wk).postWk (l.wk' (h := h') (H' := O'))
  exact ⟨v, h', φ O', he, st3, O', hR, rfl⟩
theorem GSpec.locRet {f : FuncId} {args : List Value} {h : View} {O H : Hp} {X : Value} {φ : Hp → Hp} (l : Loc O H φ) (sp : GSpec P f args h H (Ret H X)) : GSpec P f args h O (Ret O X) := by
  refine (GSpec.loc l (R := fun v O' => O' = H ∧ v = X) sp).mono fun v h' O'' ⟨O', ⟨e1, e2⟩, e3⟩ => ⟨?_, e2⟩
  obtain ⟨A, B, e, hf⟩ := l.parts
  rw [e3, e1, hf, e]
/-- An end behind which what is owned is told. -/
theorem FinSt.own {v : Value} {h : View} {O O1 : Hp} {R : Value → Hp → Prop} (hs : O1.Sublist O) (e : R v O1) : FinSt v h O fun v _ O' => R v O' := .mk h O1 (Wk.drop hs) e
theorem ClearSt.own1 {α : Type} {g : α → Value} {xs : List α} {inf : TypeInfo} {b n cap : Nat} {ty : TypeId} {fr : Nat × Nat} {h : View} {O : Hp} {f : List Value → Hp} {K : View → Hp → Prop} (d : α) (u : Upd O b (xs.map g) ty fr f) (hn : xs.length = n) (hf : fr.2 ≤ fr.1)
    (hz : zeroCellsOf inf = Option.some [g d]) (h1 : (g d).oneCell' = true) (hk : K h (f ((List.replicate n d).map g))) : ClearSt P inf (.slice (Option.some ⟨b, 0, Option.none⟩) n cap) h O K := by
  refine .some b 0 n cap [g d] rfl hz (.own u ?_ (.inl hf) ?_ ?_)
  · rw [rows_length]; simp [hn]
  · rw [rows_map]; simp [h1]
  · have : setRange (xs.map g) 0 (rows n [g d]) = (List.replicate n d).map g := by
      rw [rows_map]
      apply List.ext_getElem?
      intro i
      rw [setRange_get]
      by_cases h2 : i < n
      · rw [if_pos (by simp; omega)]; simp
      · rw [if_neg (by simp; omega), List.getElem?_eq_none (by simp; omega), List.getElem?_eq_none (by simp; omega)]
    rw [this]; exact hk
theorem StrSl.loN {l : List UInt8} {n : Nat} {K : Value → Prop} (h : n ≤ l.length) (hk : K (sV (l.drop n))) : StrSl l (some (iN n)) none K := .lo rfl h hk
theorem StrSl.hiN {l : List UInt8} {n : Nat} {K : Value → Prop} (h : n ≤ l.length) (hk : K (sV (l.take n))) : StrSl l none (some (iN n)) K := .hi rfl h hk
end Gv
end Go
