/- The law's own functions: the examples. -/
import Derived.Test.YtaahjlhfmkjefaaGreatDoorMh
set_option linter.unusedVariables false
set_option linter.unusedSimpArgs false
set_option linter.unusedSectionVars false
/- The chapter's example: what all functions answer there. -/
namespace Go.Proofs.YtaahjlhfmkjefaaGreatDoor
open Go Go.Gv
set_option maxRecDepth 100000
set_option maxHeartbeats 16000000
set_option linter.unusedSimpArgs false
set_option linter.unusedVariables false
theorem ex_tell : tellV exP exW = 0 ∧ tellV exQ exW = 0 := by decide
theorem ex_loads : loadE exP exW [0, 2, 0] = 0 ∧ loadO exP exW [0, 2, 0] = [⟨95, 105⟩, ⟨95, 125⟩, ⟨105, 115⟩] := by
  refine ⟨?_, ?_⟩
  · unfold loadE
    rw [if_neg (fun e => e ex_told.1), if_pos ex_ends.1]
  · unfold loadO endsO
    rw [if_pos ex_told.1, if_pos ex_ends.1, ex_ends.2.1]
theorem ex_dead : aliveT exP exW [0, 0, 0] = .tuple ⟨[.bool false, .int .i64 0]⟩ := by
  unfold aliveT
  rw [ex_told.2, decide_eq_false fun h => ex_ends.2.2.1 h.2]
theorem ex_refute : refT exP exW [0, 0, 0] = pairV 0 1 true 0 := by
  unfold refT
  rw [if_neg (fun e => e ex_told.2), show refV exP exW [0, 0, 0] = some (0, 1) by decide]
  rfl
theorem ex_cases : casesE exP exW = 0 ∧ casesL exP exW = [[0, 2, 0], [0, 2, 1], [1, 2, 0], [1, 2, 1]] := by
  have h : casesE exP exW = 0 := casesE_ok ex_tell.1 (by rw [ex_rem]; decide)
  exact ⟨h, (casesL_ok h).trans ex_rem⟩
theorem ex_ent : entE exP exW 1 = 0 := by
  unfold entE
  rw [if_neg (fun e => e ex_tell.1), if_neg (by decide)]
  exact ex_cases.1
theorem ex_sure : sureT exP exW 1 = tup3 2 true 0 := by
  unfold sureT
  rw [if_neg (fun e => e ex_ent), if_neg (by rw [ex_rem]; decide), if_pos (by unfold sureP stAt; rw [ex_rem]; decide)]
  unfold stAt
  rw [ex_rem]; rfl
theorem ex_hull : hullT exQ exW 1 = .tuple ⟨[.agg ⟨[.int .i64 0, .int .i64 0]⟩, .int .i64 33]⟩ := by
  have h1 : entE exQ exW 1 = 0 := by
    unfold entE
    rw [if_neg (fun e => e ex_tell.2), if_neg (by decide)]
    exact casesE_ok ex_tell.2 (by rw [ex_remQ]; decide)
  have h2 : posL exQ exW 1 = [] := by
    unfold posL
    rw [if_pos h1, ex_remQ]; rfl
  unfold hullT hullE hullX
  rw [h2]
  simp [h1, spV]
theorem ex_print : prT exQ = .tuple ⟨[sV [112, 105, 108, 108, 111, 119, 32, 48, 32, 48, 32, 53, 32, 51, 48, 32, 50, 48, 32, 48, 32, 49, 48, 61, 49, 48, 48, 32, 49, 49, 61, 49, 56, 48, 32, 49, 50, 61, 49, 49, 48], .int .i64 0]⟩ := by
  have h : chkP exQ = 0 := if_pos exQ_ok
  unfold prT
  rw [h]
  have : prV exQ = [112, 105, 108, 108, 111, 119, 32, 48, 32, 48, 32, 53, 32, 51, 48, 32, 50, 48, 32, 48, 32, 49, 48, 61, 49, 48, 48, 32, 49, 49, 61, 49, 56, 48, 32, 49, 50, 61, 49, 49, 48] := by
    simp [prV, word, headN, txN, txS, exQ, Lib.itoa, Lib.decDigits]
  rw [this]; rfl
/-- The example, as it is handed on. -/
def ExR (v : Value) (H : Hp) : Prop := ∃ a a2, v = .tuple ⟨[.agg ⟨plV exP a 3⟩, .slice a2 2 2]⟩ ∧ RdH H a (exP.log.flatMap shV) ∧ RdH H a2 (exW.flatMap spV)
theorem f56 (h : View) (O : Hp) : GSpec Tryz.prog 10 [] h O (New O ExR) := by
  refine GSpec.enter (fn := Tryz.f10) Tryz.func10 rfl (by kernel_rfl) ?_
  repeat' (conv => whnf
           first
           | (with_reducible refine NextSt.mk ?_)
           | ((with_reducible apply LoadSt.boxAgg); · (repeat (first | exact List.Mem.head _ | with_reducible apply List.mem_append_right | with_reducible apply List.mem_cons_of_mem)))
           | ((with_reducible refine AllocSt.mk ?_); intro _b _hb _hbO)
           | ((with_reducible apply StoreSt.box); (· (repeat (first | exact Upd.hd | apply Upd.tl | apply Upd.app))); (· rfl); (· rfl); (· rfl)))
  conv => whnf
  refine FinSt.new (H := [_, _, _, _]) (List.Sublist.refl _) ⟨_, _, rfl, ?_, ?_⟩
  · exact Rd.own0 (l := exP.log.flatMap shV) (by (repeat (first | exact List.Mem.head _ | with_reducible apply List.mem_append_right | with_reducible apply List.mem_cons_of_mem)))
  · exact Rd.own0 (l := exW.flatMap spV) (List.Mem.head _)
theorem kl49 {x y : Int} (hx : i64 x) (hy : i64 y) : Tryz.prog.keyLits 2 41 [.int .i64 x, .int .i64 y] = some [.int .i64 x, .int .i64 y] := by
  have hu : Tryz.prog.underlying 41 = some (.array 2 3) := by kernel_rfl
  have hu3 : Tryz.prog.underlying 3 = some (.int .i64) := by kernel_rfl
  have hc : Tryz.prog.cellsOf 41 = 2 := by kernel_rfl
  have hc3 : Tryz.prog.cellsOf 3 = 1 := by kernel_rfl
  simp [Program.keyLits, hu, hu3, hc, hc3, wf_int hx, wf_int hy, List.range, List.range.loop]
theorem eq49 {x y u v : Int} (hx : i64 x) (hy : i64 y) (hu' : i64 u) (hv : i64 v) {K : Bool → Prop} (hK : K (decide (x = u ∧ y = v))) : EqSt Tryz.prog 41 (.agg ⟨[.int .i64 x, .int .i64 y]⟩) (.agg ⟨[.int .i64 u, .int .i64 v]⟩) K := by
  have hu : Tryz.prog.underlying 41 = some (.array 2 3) := by kernel_rfl
  have hc : Tryz.prog.cellsOf 41 = 2 := by kernel_rfl
  refine EqSt.key 2 2 _ _ (by kernel_rfl) (by decide) (by kernel_rfl) ?_ ?_ (kl49 hx hy) (kl49 hu' hv) (x = u ∧ y = v) ?_ hK
  · simp [Value.formed, hu, hc]
  · simp [Value.formed, hu, hc]
  · simp
theorem LLR.rd {ls : List (List Int)} {H : Hp} {a : Option Addr} {vs : List (Option Addr × Nat × Nat)} (hr : RdH H a (vs.map gS)) (ht : OutT H ls vs) : RdLL (fun _ => none) H a ls := by
  refine ⟨vs.map gS, by rw [List.length_map]; exact ht.1, hr, fun i hi => ?_⟩
  obtain ⟨b, c, h1, h2⟩ := gS_at ht hi
  refine ⟨b, c, ?_, h2⟩
  rw [List.getD_eq_getElem?_getD, List.getElem?_map, List.getElem?_eq_getElem (by rw [ht.1]; exact hi)]
  rw [List.getD_eq_getElem?_getD, List.getElem?_eq_getElem (by rw [ht.1]; exact hi)] at h1
  simp only [Option.getD_some] at h1
  show gS _ = _
  rw [h1]; rfl
theorem rdll4 {h : View} {O : Hp} {b b0 b1 b2 b3 : Nat} {l0 l1 l2 l3 : List Int} {ty t0 t1 t2 t3 : TypeId} (m : (b, Obj.cells ⟨[.slice (some ⟨b0, 0, none⟩) l0.length l0.length, .slice (some ⟨b1, 0, none⟩) l1.length l1.length, .slice (some ⟨b2, 0, none⟩) l2.length l2.length, .slice (some ⟨b3, 0, none⟩) l3.length l3.length]⟩ ty (0, 0)) ∈ O)
    (m0 : (b0, Obj.cells ⟨l0.map zI⟩ t0 (0, 0)) ∈ O) (m1 : (b1, Obj.cells ⟨l1.map zI⟩ t1 (0, 0)) ∈ O) (m2 : (b2, Obj.cells ⟨l2.map zI⟩ t2 (0, 0)) ∈ O) (m3 : (b3, Obj.cells ⟨l3.map zI⟩ t3 (0, 0)) ∈ O) : RdLL h O (some ⟨b, 0, none⟩) [l0, l1, l2, l3] := by
  refine ⟨_, rfl, Rd.own0 m, fun i hi => ?_⟩
  have : i = 0 ∨ i = 1 ∨ i = 2 ∨ i = 3 := by simp at hi; omega
  rcases this with rfl | rfl | rfl | rfl
  · exact ⟨_, _, rfl, Rd.own0 m0⟩
  · exact ⟨_, _, rfl, Rd.own0 m1⟩
  · exact ⟨_, _, rfl, Rd.own0 m2⟩
  · exact ⟨_, _, rfl, Rd.own0 m3⟩
theorem f16 (h : View) (hpw : PowV h) (O : Hp) : GSpec Tryz.prog 4 [] h O (Ret O (.bool true)) := by
  have e56 := fun O => f56 h O
  have hn3 : ∀ {n : Nat}, n ≤ 100 → n ≤ 9223372036854775807 := fun h => by omega
  have e22 := fun a a2 a3 c3 O hr hr2 hr3 => f22 exP exW [0, 2, 0] a a2 a3 3 2 c3 (hn3 (by decide)) (hn3 (by decide)) (hn3 (by decide)) h O hr hr2 hr3
  have e20 := fun a a2 a3 c3 O hr hr2 hr3 => f20 exP exW [0, 0, 0] a a2 a3 3 2 c3 (hn3 (by decide)) (hn3 (by decide)) (hn3 (by decide)) h O hr hr2 hr3
  have e32 := fun a a2 a3 c3 O hr hr2 hr3 => f32 exP exW [0, 0, 0] a a2 a3 3 2 c3 (hn3 (by decide)) (hn3 (by decide)) (hn3 (by decide)) h O hr hr2 hr3
  have e18 := fun a a2 O hr hr2 => f18 exP exW a a2 3 2 (hn3 (by decide)) (hn3 (by decide)) h O hr hr2
  have e30 := fun a a2 O hr hr2 => f30 exP exW 1 a a2 3 2 (hn3 (by decide)) (hn3 (by decide)) h O hr hr2
  have e28 := fun a a2 O (hr : Rd h O a (exP.log.flatMap shV)) hr2 => f28 exQ exW 1 a a2 3 2 (hn3 (by decide)) (hn3 (by decide)) h O hr hr2
  have e57 := fun a O (hr : Rd h O a (exP.log.flatMap shV)) => f57 exQ a 3 (hn3 (by decide)) h hpw O hr
  have hLR : LoadsR exP exW [0, 2, 0] = fun v H => ∃ a c, v = .tuple ⟨[.slice a 3 c, .int .i64 0]⟩ ∧ RdH H a (([⟨95, 105⟩, ⟨95, 125⟩, ⟨105, 115⟩] : List Sp).flatMap spV) ∧ 3 ≤ c := by
    unfold LoadsR
    rw [ex_loads.1, ex_loads.2]; rfl
  have hCR : CasesR exP exW = fun v H => ∃ x, v = .tuple ⟨[x, .int .i64 0]⟩ ∧ LLR [[0, 2, 0], [0, 2, 1], [1, 2, 0], [1, 2, 1]] x H := by
    unfold CasesR
    rw [ex_cases.1, ex_cases.2]
  rw [hLR] at e22
  rw [hCR] at e18
  have e25 := fun a a2 c c2 O hr hr2 => f25 [⟨95, 105⟩, ⟨95, 125⟩, ⟨105, 115⟩] [⟨95, 105⟩, ⟨95, 125⟩, ⟨105, 115⟩] a a2 c c2 (hn3 (by decide)) (hn3 (by decide)) (by unfold spW; decide) (by unfold spW; decide) h O hr hr2
  have e24 := fun a a2 c c2 O hr hr2 => f24 [[0, 2, 0], [0, 2, 1], [1, 2, 0], [1, 2, 1]] [[0, 2, 0], [0, 2, 1], [1, 2, 0], [1, 2, 1]] a a2 c c2 (hn3 (by decide)) (hn3 (by decide)) (by decide) (by decide) h O hr hr2
  rw [decide_eq_true rfl] at e25 e24
  rw [ex_dead] at e20
  rw [ex_refute] at e32
  rw [ex_sure] at e30
  rw [ex_hull] at e28
  rw [ex_print] at e57
  refine GSpec.enter (fn := Tryz.f4) Tryz.func4 rfl (by kernel_rfl) ?_
  repeat' (conv => whnf
           first
           | (((with_reducible refine CallSt.new (f := 10) (R := ExR) ?_ ?_); (· exact e56 _); rintro _ H0 ⟨a, a2, rfl, hA, hA2⟩))
           | (((with_reducible refine CallSt.new (f := 11) (R := (fun v H => ∃ a c, v = .tuple ⟨[.slice a 3 c, .int .i64 0]⟩ ∧ RdH H a (([⟨95, 105⟩, ⟨95, 125⟩, ⟨105, 115⟩] : List Sp).flatMap spV) ∧ 3 ≤ c)) ?_ ?_); (· exact e22 _ _ _ _ _ (by (repeat (first | with_reducible assumption | (with_reducible apply Buf.rd; with_reducible assumption) | (with_reducible apply Rd.appL; with_reducible assumption) | (with_reducible apply Rd.appL; with_reducible apply Buf.rd; with_reducible assumption) | (with_reducible apply Rd.ofH; with_reducible assumption) | (with_reducible apply Rd.ofH1; with_reducible assumption) | with_reducible apply Rd.cons | with_reducible apply Rd.appR))) (by (repeat (first | with_reducible assumption | (with_reducible apply Buf.rd; with_reducible assumption) | (with_reducible apply Rd.appL; with_reducible assumption) | (with_reducible apply Rd.appL; with_reducible apply Buf.rd; with_reducible assumption) | (with_reducible apply Rd.ofH; with_reducible assumption) | (with_reducible apply Rd.ofH1; with_reducible assumption) | with_reducible apply Rd.cons | with_reducible apply Rd.appR))) (Rd.own0 (l := [0, 2, 0].map zI) (List.Mem.head _))); rintro _ H1 ⟨la, lc, rfl, hl1, hl2⟩))
           | (((with_reducible refine CallSt.rd (f := 12) (X := .tuple ⟨[.bool false, .int .i64 0]⟩) ?_ ?_); (· exact e20 _ _ _ _ _ (by (repeat (first | with_reducible assumption | (with_reducible apply Buf.rd; with_reducible assumption) | (with_reducible apply Rd.appL; with_reducible assumption) | (with_reducible apply Rd.appL; with_reducible apply Buf.rd; with_reducible assumption) | (with_reducible apply Rd.ofH; with_reducible assumption) | (with_reducible apply Rd.ofH1; with_reducible assumption) | with_reducible apply Rd.cons | with_reducible apply Rd.appR))) (by (repeat (first | with_reducible assumption | (with_reducible apply Buf.rd; with_reducible assumption) | (with_reducible apply Rd.appL; with_reducible assumption) | (with_reducible apply Rd.appL; with_reducible apply Buf.rd; with_reducible assumption) | (with_reducible apply Rd.ofH; with_reducible assumption) | (with_reducible apply Rd.ofH1; with_reducible assumption) | with_reducible apply Rd.cons | with_reducible apply Rd.appR))) (Rd.own0 (l := [0, 0, 0].map zI) (List.Mem.head _)))))
           | (((with_reducible refine CallSt.rd (f := 13) (X := pairV 0 1 true 0) ?_ ?_); (· exact e32 _ _ _ _ _ (by (repeat (first | with_reducible assumption | (with_reducible apply Buf.rd; with_reducible assumption) | (with_reducible apply Rd.appL; with_reducible assumption) | (with_reducible apply Rd.appL; with_reducible apply Buf.rd; with_reducible assumption) | (with_reducible apply Rd.ofH; with_reducible assumption) | (with_reducible apply Rd.ofH1; with_reducible assumption) | with_reducible apply Rd.cons | with_reducible apply Rd.appR))) (by (repeat (first | with_reducible assumption | (with_reducible apply Buf.rd; with_reducible assumption) | (with_reducible apply Rd.appL; with_reducible assumption) | (with_reducible apply Rd.appL; with_reducible apply Buf.rd; with_reducible assumption) | (with_reducible apply Rd.ofH; with_reducible assumption) | (with_reducible apply Rd.ofH1; with_reducible assumption) | with_reducible apply Rd.cons | with_reducible apply Rd.appR))) (Rd.own0 (l := [0, 0, 0].map zI) (List.Mem.head _)))))
           | (((with_reducible refine CallSt.new (f := 14) (R := (fun v H => ∃ x, v = .tuple ⟨[x, .int .i64 0]⟩ ∧ LLR [[0, 2, 0], [0, 2, 1], [1, 2, 0], [1, 2, 1]] x H)) ?_ ?_); (· exact e18 _ _ _ (by (repeat (first | with_reducible assumption | (with_reducible apply Buf.rd; with_reducible assumption) | (with_reducible apply Rd.appL; with_reducible assumption) | (with_reducible apply Rd.appL; with_reducible apply Buf.rd; with_reducible assumption) | (with_reducible apply Rd.ofH; with_reducible assumption) | (with_reducible apply Rd.ofH1; with_reducible assumption) | with_reducible apply Rd.cons | with_reducible apply Rd.appR))) (by (repeat (first | with_reducible assumption | (with_reducible apply Buf.rd; with_reducible assumption) | (with_reducible apply Rd.appL; with_reducible assumption) | (with_reducible apply Rd.appL; with_reducible apply Buf.rd; with_reducible assumption) | (with_reducible apply Rd.ofH; with_reducible assumption) | (with_reducible apply Rd.ofH1; with_reducible assumption) | with_reducible apply Rd.cons | with_reducible apply Rd.appR)))); rintro _ H2 ⟨_, rfl, ca, cc, cvs, rfl, cr, ct, cl⟩))
           | (((with_reducible refine CallSt.rd (f := 15) (X := tup3 2 true 0) ?_ ?_); (· exact e30 _ _ _ (by (repeat (first | with_reducible assumption | (with_reducible apply Buf.rd; with_reducible assumption) | (with_reducible apply Rd.appL; with_reducible assumption) | (with_reducible apply Rd.appL; with_reducible apply Buf.rd; with_reducible assumption) | (with_reducible apply Rd.ofH; with_reducible assumption) | (with_reducible apply Rd.ofH1; with_reducible assumption) | with_reducible apply Rd.cons | with_reducible apply Rd.appR))) (by (repeat (first | with_reducible assumption | (with_reducible apply Buf.rd; with_reducible assumption) | (with_reducible apply Rd.appL; with_reducible assumption) | (with_reducible apply Rd.appL; with_reducible apply Buf.rd; with_reducible assumption) | (with_reducible apply Rd.ofH; with_reducible assumption) | (with_reducible apply Rd.ofH1; with_reducible assumption) | with_reducible apply Rd.cons | with_reducible apply Rd.appR))))))
           | (((with_reducible refine CallSt.rd (f := 16) (X := .tuple ⟨[.agg ⟨[.int .i64 0, .int .i64 0]⟩, .int .i64 33]⟩) ?_ ?_); (· exact e28 _ _ _ (by (repeat (first | with_reducible assumption | (with_reducible apply Buf.rd; with_reducible assumption) | (with_reducible apply Rd.appL; with_reducible assumption) | (with_reducible apply Rd.appL; with_reducible apply Buf.rd; with_reducible assumption) | (with_reducible apply Rd.ofH; with_reducible assumption) | (with_reducible apply Rd.ofH1; with_reducible assumption) | with_reducible apply Rd.cons | with_reducible apply Rd.appR))) (by (repeat (first | with_reducible assumption | (with_reducible apply Buf.rd; with_reducible assumption) | (with_reducible apply Rd.appL; with_reducible assumption) | (with_reducible apply Rd.appL; with_reducible apply Buf.rd; with_reducible assumption) | (with_reducible apply Rd.ofH; with_reducible assumption) | (with_reducible apply Rd.ofH1; with_reducible assumption) | with_reducible apply Rd.cons | with_reducible apply Rd.appR))))))
           | (((with_reducible refine CallSt.rd (f := 5) (X := .tuple ⟨[sV [112, 105, 108, 108, 111, 119, 32, 48, 32, 48, 32, 53, 32, 51, 48, 32, 50, 48, 32, 48, 32, 49, 48, 61, 49, 48, 48, 32, 49, 49, 61, 49, 56, 48, 32, 49, 50, 61, 49, 49, 48], .int .i64 0]⟩) ?_ ?_); (· exact e57 _ _ (by (repeat (first | with_reducible assumption | (with_reducible apply Buf.rd; with_reducible assumption) | (with_reducible apply Rd.appL; with_reducible assumption) | (with_reducible apply Rd.appL; with_reducible apply Buf.rd; with_reducible assumption) | (with_reducible apply Rd.ofH; with_reducible assumption) | (with_reducible apply Rd.ofH1; with_reducible assumption) | with_reducible apply Rd.cons | with_reducible apply Rd.appR))))))
           | (((with_reducible refine CallSt.rd (f := 17) (X := .bool true) ?_ ?_); (· exact e25 _ _ _ _ _ (by (repeat (first | with_reducible assumption | (with_reducible apply Buf.rd; with_reducible assumption) | (with_reducible apply Rd.appL; with_reducible assumption) | (with_reducible apply Rd.appL; with_reducible apply Buf.rd; with_reducible assumption) | (with_reducible apply Rd.ofH; with_reducible assumption) | (with_reducible apply Rd.ofH1; with_reducible assumption) | with_reducible apply Rd.cons | with_reducible apply Rd.appR))) (Rd.own0 (l := ([⟨95, 105⟩, ⟨95, 125⟩, ⟨105, 115⟩] : List Sp).flatMap spV) (List.Mem.head _)))))
           | ((refine eq49 (x := 0) (y := 1) (u := 0) (v := 1) (by decide) (by decide) (by decide) (by decide) ?_))
           | (((with_reducible refine CallSt.rd (f := 18) (X := .bool true) ?_ ?_); (· exact e24 _ _ _ _ _ ((LLR.rd cr ct).more (fun _ _ e => by cases e) (fun b o m => by (repeat (first | exact List.mem_append_left _ m | apply List.mem_cons_of_mem | apply List.mem_append_right)))) (rdll4 (l0 := [0, 2, 0]) (l1 := [0, 2, 1]) (l2 := [1, 2, 0]) (l3 := [1, 2, 1]) (List.Mem.head _) (by (repeat (first | exact List.Mem.head _ | with_reducible apply List.mem_append_right | with_reducible apply List.mem_cons_of_mem))) (by (repeat (first | exact List.Mem.head _ | with_reducible apply List.mem_append_right | with_reducible apply List.mem_cons_of_mem))) (by (repeat (first | exact List.Mem.head _ | with_reducible apply List.mem_append_right | with_reducible apply List.mem_cons_of_mem))) (by (repeat (first | exact List.Mem.head _ | with_reducible apply List.mem_append_right | with_reducible apply List.mem_cons_of_mem)))))))
           | (with_reducible refine NextSt.mk ?_)
           | (with_reducible refine OnBB.tt ?_)
           | (with_reducible refine OnBB.ff ?_)
           | ((with_reducible apply Cmp.yes); · first | omega | (with_reducible assumption) | (with_reducible rfl))
           | ((with_reducible apply Cmp.no); · first | omega | (with_reducible assumption))
           | ((with_reducible apply LoadSt.boxAgg); · (repeat (first | exact List.Mem.head _ | with_reducible apply List.mem_append_right | with_reducible apply List.mem_cons_of_mem)))
           | ((with_reducible refine AllocSt.mk ?_); intro _b _hb _hbO)
           | ((with_reducible apply StoreSt.box); (· (repeat (first | exact Upd.hd | apply Upd.tl | apply Upd.app))); (· rfl); (· rfl); (· rfl)))
  conv => whnf
  refine FinSt.ret (by (try dsimp only); (try simp only [List.cons_append, List.nil_append]); (repeat (first | with_reducible exact List.Sublist.refl _ | with_reducible exact List.nil_sublist _ | with_reducible apply List.Sublist.cons_cons | with_reducible apply sub_app | apply List.Sublist.cons_cons | apply sub_app | with_reducible apply List.Sublist.cons | with_reducible apply sub_skip))) ?_
  rfl
end Go.Proofs.YtaahjlhfmkjefaaGreatDoor
