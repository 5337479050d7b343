/- Messages put in order, each thing once. -/
import Derived.Test.YtlbmlimaobkhpaaJb
import Derived.Test.YtlbmlimaobkhpaaJa
import Derived.Test.YtlbmlimaobkhpaaSh
import Derived.Test.YtlbmlimaobkhpaaGe
import Derived.Shelf.SlSortCmp.NoneTotal
import Derived.Handy
import Derived.Laws.Cover1
import Derived.StillTailTactics
import Derived.Test.YtlbmlimaobkhpaaRa
import Derived.Test.YtlbmlimaobkhpaaGf
set_option linter.unusedVariables false
set_option linter.unusedSimpArgs false
set_option linter.unusedSectionVars false
/- Messages put in order by the library's sort. -/
namespace Go.Proofs.Ytlbmlimaobkhpaa
open Go Go.Gv
set_option maxRecDepth 100000
set_option maxHeartbeats 8000000
set_option linter.unusedSimpArgs false
set_option linter.unusedVariables false
def cmpS (a b : Str) : Int := if Op.bytesLess a b = true then -1 else if Op.bytesLess b a = true then 1 else 0
def ordE (x y : En) : Int := orI [cmpI x.office y.office, cmpI x.no y.no, cmpS x.body y.body]
section
open Go.Shelf Go.RowKit Go.Lib Go.Sort
theorem c184 (a : Int) (W : World) : Calls Try.prog 184 #[.int .i64 a] W fun e w' => e = .returned (.bool false) ∧ w' = W := by
  go_enter Try.func184, Try.ntmps184
  go_wp2
  go_ret
  exact ⟨by simp, rfl⟩
theorem c172 (a b : Int) (W : World) : Calls Try.prog 172 #[.int .i64 a, .int .i64 b] W fun e w' => e = .returned (.int .i64 (cmpI a b)) ∧ w' = W := by
  go_enter Try.func172, Try.ntmps172
  go_wp2_with (go_at_call 184; refine (c184 _ _).mono ?_; rintro e w' ⟨rfl, rfl⟩)
  all_goals go_ret
  all_goals refine ⟨congrArg (fun n => Ending.returned (Value.int .i64 n)) ?_, rfl⟩
  all_goals unfold cmpI
  all_goals (repeat' split) <;> omega
theorem c185 (a : Str) (W : World) : Calls Try.prog 185 #[.string ⟨⟨a⟩⟩] W fun e w' => e = .returned (.bool false) ∧ w' = W := by
  go_enter Try.func185, Try.ntmps185
  go_wp2
  go_ret
  exact ⟨by simp, rfl⟩
theorem c173 (a b : Str) (W : World) : Calls Try.prog 173 #[.string ⟨⟨a⟩⟩, .string ⟨⟨b⟩⟩] W fun e w' => e = .returned (.int .i64 (cmpS a b)) ∧ w' = W := by
  go_enter Try.func173, Try.ntmps173
  go_wp2_with (go_at_call 185; refine (c185 _ _).mono ?_; rintro e w' ⟨rfl, rfl⟩)
  all_goals go_ret
  all_goals refine ⟨congrArg (fun n => Ending.returned (Value.int .i64 n)) ?_, rfl⟩
  all_goals
    unfold cmpS
    cases h1 : Op.bytesLess a b <;> cases h2 : Op.bytesLess b a <;> simp_all
  all_goals first
    | exact bl_tri a b h1 h2
    | exact absurd (bl_tri a b h1 h2) (by assumption)
    | (subst_vars; rw [bl_irr] at *; contradiction)
    | trace_state
theorem c171 (x y z : Int) (b : Nat) (W : World) (hb : W.heap[b]? = some (.cells #[.int .i64 x, .int .i64 y, .int .i64 z] 3 (0, 0))) : Calls Try.prog 171 #[.slice (some ⟨b, 0, none⟩) 3 3] W fun e w' => e = .returned (.int .i64 (orI [x, y, z])) ∧ w' = W := by
  have h0 : W.cell? ⟨b, 0, none⟩ = some (.int .i64 x) := by simp [World.cell?, hb]
  have h1 : W.cell? ⟨b, 1, none⟩ = some (.int .i64 y) := by simp [World.cell?, hb]
  have h2 : W.cell? ⟨b, 2, none⟩ = some (.int .i64 z) := by simp [World.cell?, hb]
  go_enter Try.func171, Try.ntmps171
  go_wp2
  go_rounds 4
  all_goals go_ret
  all_goals refine ⟨congrArg (fun n => Ending.returned (Value.int .i64 n)) ?_, rfl⟩
  all_goals unfold orI
  all_goals simp_all
/-- The comparison that the sort is given, in whatever world. -/
theorem c162 (x y : En) (W : World) : Calls Try.prog 162 #[.agg #[.int .i64 x.office, .int .i64 x.no, .string ⟨⟨x.body⟩⟩], .agg #[.int .i64 y.office, .int .i64 y.no, .string ⟨⟨y.body⟩⟩]] W fun e w' => e = .returned (.int .i64 (ordE x y)) ∧ ∃ q os', w' = grow (W.drewN q) os' := by
  have mixed : Try.prog.follows .mixedOrders = true := by kernel_rfl
  unfold ordE
  obtain ⟨o, n, b⟩ := x
  obtain ⟨o2, n2, b2⟩ := y
  simp only
  go_enter Try.func162, Try.ntmps162
  go_wp2_with (first
    | (go_at_call 172; refine (c172 _ _ _).mono ?_; rintro e w' ⟨rfl, rfl⟩)
    | (go_at_call 173; refine (c173 _ _ _).mono ?_; rintro e w' ⟨rfl, rfl⟩)
    | (go_at_call 171; refine (c171 _ _ _ _ _ (heap_alloc_new _ _)).mono ?_; rintro e w' ⟨rfl, rfl⟩))
  obtain ⟨w2, hw2⟩ : ∃ w2, w2 = (W.alloc (Obj.cells #[.int .i64 o, .int .i64 n, .string ⟨⟨b⟩⟩] 70)).alloc (Obj.cells #[.int .i64 o2, .int .i64 n2, .string ⟨⟨b2⟩⟩] 70) := ⟨_, rfl⟩
  have hh : w2.heap[W.heap.size]? = some (.cells #[.int .i64 o, .int .i64 n, .string ⟨⟨b⟩⟩] 70 (0, 0)) := by
    rw [hw2]
    show ((W.heap.push _).push _)[W.heap.size]? = _
    simp [Array.getElem?_push]
  have a0 : w2.cell? ⟨W.heap.size, 0, none⟩ = some (.int .i64 o) := by simp [World.cell?, hh]
  have a1 : w2.cell? ⟨W.heap.size, 1, none⟩ = some (.int .i64 n) := by simp [World.cell?, hh]
  have a2 : w2.cell? ⟨W.heap.size, 2, none⟩ = some (.string ⟨⟨b⟩⟩) := by simp [World.cell?, hh]
  have hh2 : w2.heap[W.heap.size + 1]? = some (.cells #[.int .i64 o2, .int .i64 n2, .string ⟨⟨b2⟩⟩] 70 (0, 0)) := by
    rw [hw2]
    show ((W.heap.push _).push _)[W.heap.size + 1]? = _
    rw [Array.getElem?_push, if_pos (by simp)]
  have b0 : w2.cell? ⟨W.heap.size + 1, 0, none⟩ = some (.int .i64 o2) := by simp [World.cell?, hh2]
  have b1 : w2.cell? ⟨W.heap.size + 1, 1, none⟩ = some (.int .i64 n2) := by simp [World.cell?, hh2]
  have b2' : w2.cell? ⟨W.heap.size + 1, 2, none⟩ = some (.string ⟨⟨b2⟩⟩) := by simp [World.cell?, hh2]
  rw [← hw2]
  have hW : ∃ q os', w2 = grow (W.drewN q) os' := ⟨0, _, by rw [hw2, alloc_eq_grow, alloc_eq_grow, grow_grow]; rfl⟩
  clear hw2
  go_still_tail 15, (by kernel_rfl)
  still_call (c172 _ _ _)
  repeat still_step
  still_call (c172 _ _ _)
  repeat still_step
  still_call (c173 _ _ _)
  repeat still_step
  refine wpStill_nil ?_
  clear a0 a1 a2 b0 b1 b2' hh hh2
  change wpList _ _ _ _ _ w2.drew
  obtain ⟨w3, hw3⟩ : ∃ w3, w3 = w2.drew := ⟨_, rfl⟩
  rw [← hw3]
  have hW3 : ∃ q os', w3 = grow (W.drewN q) os' := by
    obtain ⟨q, os', rfl⟩ := hW
    exact ⟨q + 1, os', by rw [hw3]; rfl⟩
  clear hw3 hW
  go_wp2_with (go_at_call 171; refine (c171 _ _ _ _ _ (heap_alloc_new _ _)).mono ?_; rintro e w' ⟨rfl, rfl⟩)
  all_goals go_ret
  obtain ⟨q, os', rfl⟩ := hW3
  exact ⟨rfl, q, _, by rw [alloc_eq_grow, grow_grow]⟩
theorem ord_lt (x y : En) : ordE x y < 0 ↔ ltE x y := by
  unfold ordE ltE orI
  by_cases h1 : x.office < y.office
  · have : cmpI x.office y.office = -1 := if_pos h1
    rw [this]; simp [h1]
  · by_cases h2 : y.office < x.office
    · have : cmpI x.office y.office = 1 := by unfold cmpI; rw [if_neg h1, if_pos h2]
      rw [this]
      simp
      omega
    · have e : x.office = y.office := by omega
      have : cmpI x.office y.office = 0 := cmpI_zero.2 e
      rw [this, List.find?_cons_of_neg (by simp)]
      by_cases h3 : x.no < y.no
      · have : cmpI x.no y.no = -1 := if_pos h3
        rw [this]; simp [e, h3]
      · by_cases h4 : y.no < x.no
        · have : cmpI x.no y.no = 1 := by unfold cmpI; rw [if_neg h3, if_pos h4]
          rw [this]
          simp
          omega
        · have e2 : x.no = y.no := by omega
          have : cmpI x.no y.no = 0 := cmpI_zero.2 e2
          rw [this, List.find?_cons_of_neg (by simp)]
          unfold cmpS
          by_cases h5 : Op.bytesLess x.body y.body = true
          · rw [if_pos h5]; simp [e, e2, h5]
          · rw [if_neg h5]
            by_cases h6 : Op.bytesLess y.body x.body = true
            · rw [if_pos h6]; simp [e, e2, h5]
            · rw [if_neg h6]; simp [e, e2, h5]
theorem lt162 (x y : En) : ltOf ordE x y = decide (ltE x y) := decide_eq_decide.2 (ord_lt x y)
theorem swo162 : SWO (ltOf ordE) where
  irrefl x := by
    rw [lt162, decide_eq_false_iff_not]
    unfold ltE
    rw [bl_irr]; simp
  trans x y z h1 h2 := by
    rw [lt162, decide_eq_true_iff] at *
    unfold ltE at *
    rcases h1 with h1 | ⟨h1, h1 | ⟨h1', h1⟩⟩ <;> rcases h2 with h2 | ⟨h2, h2 | ⟨h2', h2⟩⟩
    all_goals first
      | (exact .inr ⟨by omega, .inr ⟨by omega, bl_trans _ _ _ h1 h2⟩⟩)
      | (left; omega)
      | (right; refine ⟨by omega, ?_⟩; left; omega)
  ntrans x y z h1 h2 := by
    rw [lt162, decide_eq_false_iff_not] at *
    intro h3
    unfold ltE at *
    by_cases e1 : x.office = y.office ∧ x.no = y.no
    · by_cases e2 : y.office = z.office ∧ y.no = z.no
      · have q1 : Op.bytesLess x.body y.body = false := by
          cases q : Op.bytesLess x.body y.body with
          | false => rfl
          | true => exact absurd (.inr ⟨e1.1, .inr ⟨e1.2, q⟩⟩) h1
        have q2 : Op.bytesLess y.body z.body = false := by
          cases q : Op.bytesLess y.body z.body with
          | false => rfl
          | true => exact absurd (.inr ⟨e2.1, .inr ⟨e2.2, q⟩⟩) h2
        have q3 := bl_le_trans q2 q1
        rw [q3] at h3
        simp at h3
        omega
      · apply h2
        by_cases z1 : y.office < z.office
        · exact .inl z1
        · right
          by_cases z2 : y.no < z.no
          · refine ⟨?_, .inl z2⟩; omega
          · exfalso; omega
    · apply h1
      by_cases z1 : x.office < y.office
      · exact .inl z1
      · right
        by_cases z2 : x.no < y.no
        · refine ⟨?_, .inl z2⟩; omega
        · exfalso; omega
theorem fn161 : ∃ fn, Try.prog.funcs[161]? = some fn ∧ fn.body.isSome = true ∧ (fn.name == "runtime.NumGoroutine") = false := ⟨_, Try.func161, by kernel_rfl, by kernel_rfl⟩
theorem sort161 (xs : List En) (b : Buf) (hb : b.ok 3 (xs.flatMap enV) xs.length) (hlen : xs.length ≤ 1099511627776) (h : View) :
    GSpec Try.prog 161 [.slice b.a xs.length b.cap, .func (.func 162) #[] #[]] h (b.hp 70 (xs.flatMap enV)) (fun _ _ O' => ∃ ys : List En, ys.Perm xs ∧ ys.Pairwise (fun a b => ¬ ltE b a) ∧ O' = b.hp 70 (ys.flatMap enV)) := by
  by_cases h0 : 0 < xs.length
  · have sp := sort_spec (P := Try.prog) (ρ := Try.sortEn_ren) Try.sortEn 3 Try.isAgg70 Try.sizeOf70 enV (fun _ => rfl) (fun x v hv => by simp [enV, sV] at hv; rcases hv with rfl | rfl | rfl <;> rfl) ordE swo162 162 #[]
      (enters_of Try.func162 (by kernel_rfl) rfl) (fun _ _ _ _ _ _ _ x y => c162 x y _) fn161 b 70 xs h0 hb (by omega) h
    refine GSpec.mono sp ?_
    rintro v _ O' ⟨ys, hp, hs, -, rfl⟩
    refine ⟨ys, hp, hs.imp fun {x y} e => ?_, rfl⟩
    rw [lt162] at e
    exact of_decide_eq_false e
  · have : xs = [] := List.eq_nil_of_length_eq_zero (by omega)
    subst this
    refine ⟨fn161, fun w hv => ?_⟩
    refine Calls.mono (AnyF.slices_SortFunc_none (ρ := Try.sortEn_ren) Try.sortEn b.a b.cap _ w) ?_
    rintro e w' ⟨rfl, rfl⟩
    exact ⟨_, h, _, rfl, Step.refl hv, [], List.Perm.refl _, List.Pairwise.nil, rfl⟩
end
end Go.Proofs.Ytlbmlimaobkhpaa
/- slices.CompactFunc at entries: of neighbours that are about the same the first. -/
namespace Go.Proofs.Ytlbmlimaobkhpaa
open Go Go.Gv
set_option maxRecDepth 100000
set_option maxHeartbeats 8000000
set_option linter.unusedSimpArgs false
set_option linter.unusedVariables false
theorem cptF_snoc (z : En) : ∀ (l : List En) (x : En), cptF x (l ++ [z]) = cptF x l ++ if samK ((x :: l).getLast (by simp)) z then [] else [z]
  | [], x => by
    show cptF x [z] = _
    unfold cptF
    split <;> rename_i h
    · simp [cptF, h]
    · simp [cptF, h]
  | y :: l, x => by
    rw [List.cons_append]
    have ih := cptF_snoc z l y
    have e : (x :: y :: l).getLast (by simp) = (y :: l).getLast (by simp) := List.getLast_cons _
    rw [e]
    unfold cptF
    split
    · exact ih
    · rw [ih, List.cons_append]
theorem cpt_succ {ys : List En} {k : Nat} (h1 : 1 ≤ k) (h2 : k < ys.length) : cpt (ys.take (k + 1)) = cpt (ys.take k) ++ if samK (ys.getD (k - 1) default) (ys.getD k default) then [] else [ys.getD k default] := by
  rw [take_succ (d := default) h2]
  obtain ⟨x, l, e⟩ : ∃ x l, ys.take k = x :: l := by
    cases e : ys.take k with
    | nil => have := congrArg List.length e; rw [List.length_take, List.length_nil] at this; omega
    | cons x l => exact ⟨x, l, rfl⟩
  have hlast : (x :: l).getLast (by simp) = ys.getD (k - 1) default := by
    have hl : (x :: l).length = k := by rw [← e, List.length_take]; omega
    rw [List.getLast_eq_getElem]
    have : (x :: l)[(x :: l).length - 1]? = ys[k - 1]? := by
      rw [← e, List.getElem?_take, if_pos (by rw [List.length_take]; omega)]
      congr 1
      rw [List.length_take]; omega
    rw [List.getD_eq_getElem?_getD, ← this, List.getElem?_eq_getElem (by simp)]; rfl
  rw [e, List.cons_append]
  show x :: cptF x (l ++ [_]) = (x :: cptF x l) ++ _
  rw [cptF_snoc, hlast, List.cons_append]
theorem cpt_short {ys : List En} (h : ys.length < 2) : cpt ys = ys := by
  match ys, h with
  | [], _ => rfl
  | [x], _ => rfl
/-- What CompactFunc leaves. -/
def CmR (ys : List En) (v : Value) (O' : Hp) : Prop := ∃ b' : Buf, b'.ok 3 ((cpt ys).flatMap enV) (cpt ys).length ∧ v = .slice b'.a (cpt ys).length b'.cap ∧ O' = b'.hp 70 ((cpt ys).flatMap enV)
theorem f163 (ys : List En) (b : Buf) (hb : b.ok 3 (ys.flatMap enV) ys.length) (hlen : ys.length ≤ 1099511627776) (h : View) :
    GSpec Try.prog 163 [.slice b.a ys.length b.cap, .func (.func 164) #[] #[]] h (b.hp 70 (ys.flatMap enV)) (fun v _ O' => CmR ys v O') := by
  have hcap := Buf.le hb
  obtain ⟨N, hN⟩ : ∃ N, ys.length = N := ⟨_, rfl⟩
  rw [hN] at hb hlen hcap ⊢
  by_cases h2 : N < 2
  · refine GSpec.enter (fn := Try.f163) Try.func163 rfl (by kernel_rfl) ?_
    repeat' (conv => whnf
             first
             | (with_reducible refine NextSt.mk ?_)
             | (with_reducible refine OnBB.tt ?_)
             | ((with_reducible apply Cmp.yes); · first | omega | (with_reducible assumption) | (with_reducible rfl)))
    refine FinSt.own (R := CmR ys) (O1 := b.hp 70 (ys.flatMap enV)) (by (try dsimp only); (try simp only [List.cons_append, List.nil_append]); (repeat (first | with_reducible exact List.Sublist.refl _ | with_reducible exact List.nil_sublist _ | with_reducible apply List.Sublist.cons_cons | with_reducible apply sub_app | apply List.Sublist.cons_cons | apply sub_app | with_reducible apply List.Sublist.cons | with_reducible apply sub_skip))) ?_
    rw [CmR, cpt_short (by omega), hN]
    exact ⟨b, hb, rfl, rfl⟩
  · refine GSpec.enter (fn := Try.f163) Try.func163 rfl (by kernel_rfl) ?_
    repeat' (conv => whnf
             first
             | (with_reducible refine NextSt.mk ?_)
             | (with_reducible refine OnBB.ff ?_)
             | ((with_reducible apply Cmp.no); · first | omega | (with_reducible assumption)))
    refine LoopSt.fix [4, 5, 6, 7, 12, 13, 14, 15, 16, 17, 18, 19, 20, 21, 22, 23, 24, 25, 26, 27, 28, 29, 30, 31, 32, 33, 34, 35, 36, 37, 38, 39, 40, 41, 42, 43, 44, 45, 46, 47, 48, 49, 50, 51, 52, 53, 54, 55, 56, 57, 58, 59, 60, 61, 62, 63, 64] (fun (i : Nat) => [(5, iN i)]) (fun _ => _) (fun i => 1 ≤ i ∧ i ≤ N ∧ cpt (ys.take i) = ys.take i) (fun i => N - i) (1) _ (Wk.refl _ _) (rfl) ?_ ?_ ?_
    · repeat' (first | exact True.intro | refine And.intro ?_ ?_ | rfl | exact congrArg (Value.int _) (by omega) | exact congrArg (fun n => Value.slice _ n _) (by (try dsimp only); omega))
    · refine ⟨Nat.le_refl _, by omega, ?_⟩
      rw [cpt_short (by rw [List.length_take]; omega)]
    · rintro i d ⟨hi1, hi, hc⟩
      by_cases hiN : i < N
      · have e164 := fun O => f164 (ys.getD i default) (ys.getD (i - 1) default) h O
        have hsucc := cpt_succ hi1 (by rw [hN]; exact hiN)
        by_cases hs : samK (ys.getD (i - 1) default) (ys.getD i default)
        · rw [decide_eq_true (show _ ∧ _ from ⟨hs.1.symm, hs.2.symm⟩)] at e164
          rw [if_pos hs, List.append_nil, hc] at hsucc
          have hac : i < b.cap := by omega
          repeat' (conv => whnf
                   first
                   | (((with_reducible refine CallG.rd (f := 164) (X := .bool true) ?_ ?_); (· exact e164 _)))
                   | ((with_reducible refine DrawSt.walk [0, 1, 2, 3, 4, 5, 6, 7, 8, 9, 10] mixed ?_ ?_); · decide +kernel)
                   | ((with_reducible apply LoadSt.rdg (g := enV) (s := 3)); (· rfl); (· (repeat (first | with_reducible assumption | (with_reducible apply Buf.rd; with_reducible assumption) | (with_reducible apply Rd.appL; with_reducible assumption) | (with_reducible apply Rd.appL; with_reducible apply Buf.rd; with_reducible assumption) | with_reducible apply Rd.cons | with_reducible apply Rd.appR))); (· exact fun _ => rfl); (· decide); · (first | omega | (simp only [List.length_map, List.length_append, List.length_cons, List.length_nil, List.length_take, List.length_drop, List.length_replicate, List.length_set] at *; omega)))
                   | ((with_reducible apply IdxSl.bufm (s := 3)); (· with_reducible assumption); (· rfl); (· rfl); (· first | with_reducible rfl | exact natL _); · (first | omega | (simp only [List.length_map, List.length_append, List.length_cons, List.length_nil, List.length_take, List.length_drop, List.length_replicate, List.length_set] at *; omega)))
                   | (with_reducible refine NextSt.mk ?_)
                   | (with_reducible refine OnBB.tt ?_)
                   | ((with_reducible apply NW.subN); (· first | with_reducible rfl | exact natL _); (· first | with_reducible rfl | exact natL _); (· omega))
                   | ((with_reducible apply Cmp.yes); · first | omega | (with_reducible assumption) | (with_reducible rfl)))
          conv => whnf
          refine SlSl.lo (l := i) (sz := 3) (a := b.a) (cap := b.cap) (len := N) rfl ?_ ?_ ?_
          · omega
          · omega
          have hR2 := fun (zs : List En) (hz : b.ok 3 (zs.flatMap enV) N) => Rd.tail (h := h) (e := 70) (g := enV) (s := 3) (fun _ => rfl) hz hac rfl
          generalize hA : (if b.cap = i then b.a else b.a.map (·.add (i * 3))) = A2 at hR2 ⊢
          obtain ⟨M, hM⟩ : ∃ M, N - i = M := ⟨_, rfl⟩
          rw [hM]
          clear hA
          repeat' (conv => whnf
                   first
                   | (with_reducible refine NextSt.mk ?_))
          refine LoopSt.fix [5, 7, 32, 33, 34, 35, 36, 37, 38, 39, 40, 41, 42, 43, 44, 45, 46, 47, 48, 49, 50, 51, 52, 53, 54, 55, 56, 57, 58] (fun ((j, k, zs) : Nat × Nat × List En) => [(5, iN j), (7, iN k)]) (fun (j, k, zs) => b.hp 70 (zs.flatMap enV)) (fun (j, k, zs) => 1 ≤ k ∧ i + k ≤ N ∧ 1 ≤ j ∧ j < i + k ∧ zs.length = N ∧ zs.drop (i + k - 1) = ys.drop (i + k - 1) ∧ zs.take j = cpt (ys.take (i + k))) (fun (j, k, zs) => M - k) ((i, 1, ys)) _ (Wk.refl _ _) (rfl) ?_ ?_ ?_
          · repeat' (first | exact True.intro | refine And.intro ?_ ?_ | rfl | exact congrArg (Value.int _) (by omega) | exact congrArg (fun n => Value.slice _ n _) (by (try dsimp only); omega))
          · exact ⟨Nat.le_refl _, by omega, hi1, by omega, hN, rfl, hsucc.symm⟩
          · rintro ⟨j, k, zs⟩ d ⟨hk1, hk, hj1, hj, hzN, hdr, htk⟩
            dsimp only at hk1 hk hj1 hj hzN hdr htk ⊢
            have hbz : b.ok 3 (zs.flatMap enV) N := Buf.ok_len hb (by rw [flat_length (g := enV) (s := 3) (fun _ => rfl), flat_length (g := enV) (s := 3) (fun _ => rfl), hzN, hN])
            have hrz := hR2 zs hbz
            by_cases hkN : i + k < N
            · have hg : ∀ q, i + k - 1 ≤ q → zs.getD q default = ys.getD q default := fun q hq => by
                have h1 : (zs.drop (i + k - 1))[q - (i + k - 1)]? = (ys.drop (i + k - 1))[q - (i + k - 1)]? := by rw [hdr]
                rw [List.getElem?_drop, List.getElem?_drop, show i + k - 1 + (q - (i + k - 1)) = q by omega] at h1
                rw [List.getD_eq_getElem?_getD, List.getD_eq_getElem?_getD, h1]
              have hd : ∀ q, (zs.drop i).getD q default = zs.getD (i + q) default := fun q => by rw [List.getD_eq_getElem?_getD, List.getD_eq_getElem?_getD, List.getElem?_drop]
              have e164 := fun O => f164 ((zs.drop i).getD k default) ((zs.drop i).getD (k - 1) default) h O
              have q1 : (zs.drop i).getD k default = ys.getD (i + k) default := by rw [hd, hg _ (by omega)]
              have q2 : (zs.drop i).getD (k - 1) default = ys.getD (i + k - 1) default := by rw [hd, hg _ (by omega)]; congr 1; omega
              have hsucc := cpt_succ (k := i + k) (by omega) (by rw [hN]; exact hkN)
              have hdl : (zs.drop i).length = N - i := by rw [List.length_drop, hzN]
              rw [← q2, ← q1] at hsucc
              by_cases hs : samK ((zs.drop i).getD (k - 1) default) ((zs.drop i).getD k default)
              · rw [decide_eq_true (show _ ∧ _ from ⟨hs.1.symm, hs.2.symm⟩)] at e164
                rw [if_pos hs, List.append_nil] at hsucc
                repeat' (conv => whnf
                         first
                         | (((with_reducible refine CallG.rd (f := 164) (X := .bool true) ?_ ?_); (· exact e164 _)))
                         | ((with_reducible refine DrawSt.walk [0, 1, 2, 3, 4, 5, 6, 7, 8, 9, 10, 11] mixed ?_ ?_); · decide +kernel)
                         | ((with_reducible apply LoadSt.rdg (g := enV) (s := 3)); (· rfl); (· (repeat (first | with_reducible assumption | (with_reducible apply Buf.rd; with_reducible assumption) | (with_reducible apply Rd.appL; with_reducible assumption) | (with_reducible apply Rd.appL; with_reducible apply Buf.rd; with_reducible assumption) | with_reducible apply Rd.cons | with_reducible apply Rd.appR))); (· exact fun _ => rfl); (· decide); · (first | omega | (simp only [List.length_map, List.length_append, List.length_cons, List.length_nil, List.length_take, List.length_drop, List.length_replicate, List.length_set] at *; omega)))
                         | ((with_reducible apply IdxSl.rdg (g := enV) (s := 3)); (· with_reducible assumption); (· exact fun _ => rfl); (· decide); (· rfl); (· first | with_reducible rfl | exact natL _); (· (first | omega | (simp only [List.length_map, List.length_append, List.length_cons, List.length_nil, List.length_take, List.length_drop, List.length_replicate, List.length_set] at *; omega))); · (first | omega | (simp only [List.length_map, List.length_append, List.length_cons, List.length_nil, List.length_take, List.length_drop, List.length_replicate, List.length_set] at *; omega)))
                         | (with_reducible refine NextSt.mk ?_)
                         | (with_reducible refine OnBB.tt ?_)
                         | (with_reducible refine OnBB.ff ?_)
                         | ((with_reducible apply NW.addN); (· first | with_reducible rfl | exact natL _); (· first | with_reducible rfl | exact natL _); (· omega))
                         | ((with_reducible apply NW.subN); (· first | with_reducible rfl | exact natL _); (· first | with_reducible rfl | exact natL _); (· omega))
                         | ((with_reducible apply Cmp.yes); · first | omega | (with_reducible assumption) | (with_reducible rfl)))
                refine RoundFix.mk ((j, k + 1, zs)) ?_ ?_ _ rfl (Wk.drop (by (try dsimp only); (try simp only [List.cons_append, List.nil_append]); (repeat (first | with_reducible exact List.Sublist.refl _ | with_reducible exact List.nil_sublist _ | with_reducible apply List.Sublist.cons_cons | with_reducible apply sub_app | apply List.Sublist.cons_cons | apply sub_app | with_reducible apply List.Sublist.cons | with_reducible apply sub_skip)))) ?_
                · dsimp only; omega
                · repeat' (first | exact True.intro | refine And.intro ?_ ?_ | rfl | exact congrArg (Value.int _) (by omega) | exact congrArg (fun n => Value.slice _ n _) (by (try dsimp only); omega))
                · refine ⟨by dsimp only; omega, by dsimp only; omega, hj1, by dsimp only; omega, hzN, ?_, ?_⟩
                  · have := congrArg (List.drop 1) hdr
                    rw [List.drop_drop, List.drop_drop] at this
                    dsimp only
                    rw [show i + (k + 1) - 1 = i + k - 1 + 1 by omega]; exact this
                  · dsimp only; rw [show i + (k + 1) = i + k + 1 by omega, hsucc]; exact htk
              · rw [decide_eq_false (show ¬ (_ ∧ _) from fun e => hs ⟨e.1.symm, e.2.symm⟩)] at e164
                rw [if_neg hs] at hsucc
                repeat' (conv => whnf
                         first
                         | (((with_reducible refine CallG.rd (f := 164) (X := .bool false) ?_ ?_); (· exact e164 _)))
                         | (((apply StoreSt.bufe (g := enV) (s := 3) (i := j) (x := (zs.drop i).getD k default)); (· (repeat (first | with_reducible exact Loc.hd | with_reducible exact Loc.last | with_reducible exact Loc.one | with_reducible apply Loc.tl | with_reducible apply Loc.skip))); (· exact hbz); (· exact fun _ => rfl); (· with_reducible rfl); (· rfl); (· (first | omega | (simp only [List.length_map, List.length_append, List.length_cons, List.length_nil, List.length_take, List.length_drop, List.length_replicate, List.length_set] at *; omega))); (· decide); (· rfl)))
                         | ((with_reducible refine DrawSt.walk [0, 1, 2, 3, 4, 5, 6, 7, 8, 9, 10, 11] mixed ?_ ?_); · decide +kernel)
                         | ((with_reducible apply LoadSt.rdg (g := enV) (s := 3)); (· rfl); (· (repeat (first | with_reducible assumption | (with_reducible apply Buf.rd; with_reducible assumption) | (with_reducible apply Rd.appL; with_reducible assumption) | (with_reducible apply Rd.appL; with_reducible apply Buf.rd; with_reducible assumption) | with_reducible apply Rd.cons | with_reducible apply Rd.appR))); (· exact fun _ => rfl); (· decide); · (first | omega | (simp only [List.length_map, List.length_append, List.length_cons, List.length_nil, List.length_take, List.length_drop, List.length_replicate, List.length_set] at *; omega)))
                         | ((with_reducible apply IdxSl.bufm (s := 3)); (· with_reducible assumption); (· rfl); (· rfl); (· first | with_reducible rfl | exact natL _); · (first | omega | (simp only [List.length_map, List.length_append, List.length_cons, List.length_nil, List.length_take, List.length_drop, List.length_replicate, List.length_set] at *; omega)))
                         | ((with_reducible apply IdxSl.rdg (g := enV) (s := 3)); (· with_reducible assumption); (· exact fun _ => rfl); (· decide); (· rfl); (· first | with_reducible rfl | exact natL _); (· (first | omega | (simp only [List.length_map, List.length_append, List.length_cons, List.length_nil, List.length_take, List.length_drop, List.length_replicate, List.length_set] at *; omega))); · (first | omega | (simp only [List.length_map, List.length_append, List.length_cons, List.length_nil, List.length_take, List.length_drop, List.length_replicate, List.length_set] at *; omega)))
                         | (with_reducible refine NextSt.mk ?_)
                         | (with_reducible refine OnBB.tt ?_)
                         | (with_reducible refine OnBB.ff ?_)
                         | ((with_reducible apply NW.addN); (· first | with_reducible rfl | exact natL _); (· first | with_reducible rfl | exact natL _); (· omega))
                         | ((with_reducible apply NW.subN); (· first | with_reducible rfl | exact natL _); (· first | with_reducible rfl | exact natL _); (· omega))
                         | ((with_reducible apply Cmp.yes); · first | omega | (with_reducible assumption) | (with_reducible rfl)))
                refine RoundFix.mk ((j + 1, k + 1, zs.set j ((zs.drop i).getD k default))) ?_ ?_ _ rfl (Wk.drop (by (try dsimp only); (try simp only [List.cons_append, List.nil_append]); (repeat (first | with_reducible exact List.Sublist.refl _ | with_reducible exact List.nil_sublist _ | with_reducible apply List.Sublist.cons_cons | with_reducible apply sub_app | apply List.Sublist.cons_cons | apply sub_app | with_reducible apply List.Sublist.cons | with_reducible apply sub_skip)))) ?_
                · dsimp only; omega
                · repeat' (first | exact True.intro | refine And.intro ?_ ?_ | rfl | exact congrArg (Value.int _) (by omega) | exact congrArg (fun n => Value.slice _ n _) (by (try dsimp only); omega))
                · refine ⟨by dsimp only; omega, by dsimp only; omega, by dsimp only; omega, by dsimp only; omega, by rw [List.length_set]; exact hzN, ?_, ?_⟩
                  · have := congrArg (List.drop 1) hdr
                    rw [List.drop_drop, List.drop_drop] at this
                    dsimp only
                    rw [show i + (k + 1) - 1 = i + k - 1 + 1 by omega, ← this, List.drop_set_of_lt (by omega)]
                  · dsimp only
                    rw [show i + (k + 1) = i + k + 1 by omega, hsucc, ← htk, take_succ (d := default) (by rw [List.length_set]; omega), List.take_set_of_le (Nat.le_refl _)]
                    congr 2
                    rw [List.getD_eq_getElem?_getD, List.getElem?_set_self (by omega)]; rfl
            · have hk' : i + k = N := by omega
              rw [hk', ← hN, List.take_length] at htk
              have hlen : (cpt ys).length = j := by rw [← htk, List.length_take]; omega
              repeat' (conv => whnf
                       first
                       | (with_reducible refine NextSt.mk ?_)
                       | (with_reducible refine OnBB.ff ?_)
                       | ((with_reducible apply Cmp.no); · first | omega | (with_reducible assumption)))
              conv => whnf
              refine SlSl.lo (l := j) (sz := 3) (a := b.a) (cap := b.cap) (len := N) rfl ?_ ?_ ?_
              · omega
              · omega
              conv => whnf
              refine ClearSt.tail (b := b) (n := N) (i := j) (l := zs.flatMap enV) (e := 70) Loc.last hbz (sz := 3) [.int .i64 0, .int .i64 0, .string ⟨⟨[]⟩⟩] (by kernel_rfl) (by kernel_rfl) rfl rfl (by omega) rfl rfl ?_
              intro B hB1 hB2 hB
              rw [flat_take (g := enV) (s := 3) (fun _ => rfl), htk] at hB ⊢
              rw [← hB1, ← hB2]
              have hjB : j ≤ B.cap := by omega
              repeat' (conv => whnf
                       first
                       | (with_reducible refine NextSt.mk ?_))
              conv => whnf
              refine SlSl.hi (r := j) rfl hjB ?_
              repeat' (conv => whnf
                       first
                       | (with_reducible refine NextSt.mk ?_))
              conv => whnf
              refine FinSt.own (R := CmR ys) (O1 := B.hp 70 ((cpt ys).flatMap enV)) (by (try dsimp only); (try simp only [List.cons_append, List.nil_append]); (repeat (first | with_reducible exact List.Sublist.refl _ | with_reducible exact List.nil_sublist _ | with_reducible apply List.Sublist.cons_cons | with_reducible apply sub_app | apply List.Sublist.cons_cons | apply sub_app | with_reducible apply List.Sublist.cons | with_reducible apply sub_skip))) ?_
              rw [CmR, hlen]
              exact ⟨B, hB, rfl, rfl⟩
        · rw [decide_eq_false (show ¬ (_ ∧ _) from fun e => hs ⟨e.1.symm, e.2.symm⟩)] at e164
          rw [if_neg hs, hc, ← take_succ (by rw [hN]; exact hiN)] at hsucc
          repeat' (conv => whnf
                   first
                   | (((with_reducible refine CallG.rd (f := 164) (X := .bool false) ?_ ?_); (· exact e164 _)))
                   | ((with_reducible refine DrawSt.walk [0, 1, 2, 3, 4, 5, 6, 7, 8, 9, 10] mixed ?_ ?_); · decide +kernel)
                   | ((with_reducible apply LoadSt.rdg (g := enV) (s := 3)); (· rfl); (· (repeat (first | with_reducible assumption | (with_reducible apply Buf.rd; with_reducible assumption) | (with_reducible apply Rd.appL; with_reducible assumption) | (with_reducible apply Rd.appL; with_reducible apply Buf.rd; with_reducible assumption) | with_reducible apply Rd.cons | with_reducible apply Rd.appR))); (· exact fun _ => rfl); (· decide); · (first | omega | (simp only [List.length_map, List.length_append, List.length_cons, List.length_nil, List.length_take, List.length_drop, List.length_replicate, List.length_set] at *; omega)))
                   | ((with_reducible apply IdxSl.bufm (s := 3)); (· with_reducible assumption); (· rfl); (· rfl); (· first | with_reducible rfl | exact natL _); · (first | omega | (simp only [List.length_map, List.length_append, List.length_cons, List.length_nil, List.length_take, List.length_drop, List.length_replicate, List.length_set] at *; omega)))
                   | (with_reducible refine NextSt.mk ?_)
                   | (with_reducible refine OnBB.tt ?_)
                   | (with_reducible refine OnBB.ff ?_)
                   | ((with_reducible apply NW.addN); (· first | with_reducible rfl | exact natL _); (· first | with_reducible rfl | exact natL _); (· omega))
                   | ((with_reducible apply NW.subN); (· first | with_reducible rfl | exact natL _); (· first | with_reducible rfl | exact natL _); (· omega))
                   | ((with_reducible apply Cmp.yes); · first | omega | (with_reducible assumption) | (with_reducible rfl)))
          refine RoundFix.mk (i + 1) ?_ ?_ _ rfl (Wk.drop (by (try dsimp only); (try simp only [List.cons_append, List.nil_append]); (repeat (first | with_reducible exact List.Sublist.refl _ | with_reducible exact List.nil_sublist _ | with_reducible apply List.Sublist.cons_cons | with_reducible apply sub_app | apply List.Sublist.cons_cons | apply sub_app | with_reducible apply List.Sublist.cons | with_reducible apply sub_skip)))) ?_
          · omega
          · repeat' (first | exact True.intro | refine And.intro ?_ ?_ | rfl | exact congrArg (Value.int _) (by omega) | exact congrArg (fun n => Value.slice _ n _) (by (try dsimp only); omega))
          · exact ⟨by omega, hiN, hsucc⟩
      · have : i = N := by omega
        subst this
        rw [← hN, List.take_length] at hc
        repeat' (conv => whnf
                 first
                 | (with_reducible refine NextSt.mk ?_)
                 | (with_reducible refine OnBB.ff ?_)
                 | ((with_reducible apply Cmp.no); · first | omega | (with_reducible assumption)))
        refine FinSt.own (R := CmR ys) (O1 := b.hp 70 (ys.flatMap enV)) (by (try dsimp only); (try simp only [List.cons_append, List.nil_append]); (repeat (first | with_reducible exact List.Sublist.refl _ | with_reducible exact List.nil_sublist _ | with_reducible apply List.Sublist.cons_cons | with_reducible apply sub_app | apply List.Sublist.cons_cons | apply sub_app | with_reducible apply List.Sublist.cons | with_reducible apply sub_skip))) ?_
        rw [CmR, hc, hN]
        exact ⟨b, hb, rfl, rfl⟩
end Go.Proofs.Ytlbmlimaobkhpaa
