/- The law of the truth. -/
import Derived.Test.YtaahjlhfmkjefaaDoorMi
import Derived.Test.YtaahjlhfmkjefaaDoorAd
set_option linter.unusedVariables false
set_option linter.unusedSimpArgs false
set_option linter.unusedSectionVars false
/- The law of the truth: the walk. -/
namespace Go.Proofs.YtaahjlhfmkjefaaDoor
open Go Go.Gv
set_option maxRecDepth 100000
set_option maxHeartbeats 16000000
set_option linter.unusedSimpArgs false
set_option linter.unusedVariables false
/-- A slice's address and capacity. -/
abbrev Ac := Option Addr × Nat
def trV (t : Tr) (z5 z6 z7 z8 z9 : Ac) : List Value := [.int .i64 t.noise, .int .i64 t.slab, .int .i64 t.jump, .int .i64 t.faults, .int .i64 t.first, .slice z5.1 t.changes.length z5.2, .slice z6.1 t.states.length z6.2, .slice z7.1 t.errors.length z7.2, .slice z8.1 t.carried.length z8.2, .slice z9.1 t.shown.length z9.2, .int .i64 t.slack]
/-- What is drawn is of the sizes that the law asks for. -/
def valT (t : Tr) : Prop := t.changes.length + 1 ≤ 8 ∧ t.states.length = t.changes.length + 1 ∧ t.errors.length = t.changes.length + 1 ∧ t.carried.length = t.changes.length + 1 ∧ t.shown.length = t.changes.length + 1 ∧ (0 ≤ t.slack ∧ t.slack ≤ 1000) ∧ (0 ≤ t.first ∧ t.first ≤ 65536) ∧ (0 ≤ t.noise ∧ t.noise ≤ 65536) ∧ (0 ≤ t.slab ∧ t.slab ≤ 65536)
def inB (v : Int) (x : Sp) : Bool := decide (x.lo ≤ v ∧ v ≤ x.hi)
theorem any_step {v : Int} {M : List Sp} {k : Nat} (h : k < M.length) : (M.take (k + 1)).any (inB v) = ((M.take k).any (inB v) || inB v (M.getD k default)) := by
  rw [List.take_add_one, List.any_append, List.getElem?_eq_getElem h, List.getD_eq_getElem?_getD, List.getElem?_eq_getElem h]
  simp
theorem any_cov {v : Int} {M : List Sp} (h : cov v M) : M.any (inB v) = true := by
  obtain ⟨x, hx, h1⟩ := h
  exact List.any_eq_true.2 ⟨x, hx, decide_eq_true h1⟩
theorem truth_told {t : Tr} (hv : valT t) (hd : ∀ j < t.changes.length + 1, dayT t j) (hc : caseV (plT t (t.changes.length + 1)) t.states = 0) :
    toldV (plT t (t.changes.length + 1)) (wT t t.changes.length) t.states = 0 ∧ path (plT t (t.changes.length + 1)) (wT t t.changes.length) t.states (ldT t) ∧ alive (plT t (t.changes.length + 1)) (wT t t.changes.length) t.states := by
  obtain ⟨hp, hco⟩ := caseV_ok hc
  have hw := truth_w (n := t.changes.length + 1) hv.2.2.2.2.2.1.1 hd
  have hpa := truth_path (n := t.changes.length + 1) hv.2.2.2.2.2.1.1 hv.2.1 hd (fun i hi => hco.2.1 i (by have := hv.2.1; omega))
  rw [Nat.add_sub_cancel] at hw hpa
  refine ⟨?_, hpa, fun i hi => ?_⟩
  · unfold toldV tellV
    rw [if_pos hp, if_pos hw, if_neg (fun e => e rfl), if_pos hco]
  · have h1 := path_fwd hpa hi
    exact Int.le_trans h1.1 h1.2
/-- What is said of a hidden load at an entry. -/
theorem truth_pos {t : Tr} {i : Nat} (hv : valT t) (hi : i < t.changes.length + 1) (ht : toldV (plT t (t.changes.length + 1)) (wT t t.changes.length) t.states = 0) (hpa : path (plT t (t.changes.length + 1)) (wT t t.changes.length) t.states (ldT t))
    (hal : alive (plT t (t.changes.length + 1)) (wT t t.changes.length) t.states) (hE : casesE (plT t (t.changes.length + 1)) (wT t t.changes.length) = 0) :
    entE (plT t (t.changes.length + 1)) (wT t t.changes.length) (i : Nat) = 0 ∧ hullE (plT t (t.changes.length + 1)) (wT t t.changes.length) (i : Nat) = 0 ∧ cov (ldT t i) (posL (plT t (t.changes.length + 1)) (wT t t.changes.length) (i : Nat)) ∧
    (hullX (plT t (t.changes.length + 1)) (wT t t.changes.length) (i : Nat)).lo ≤ ldT t i ∧ ldT t i ≤ (hullX (plT t (t.changes.length + 1)) (wT t t.changes.length) (i : Nat)).hi := by
  obtain ⟨hp, hw, hco⟩ := told_ok ht
  have htl : tellV (plT t (t.changes.length + 1)) (wT t t.changes.length) = 0 := by unfold tellV; rw [if_pos hp, if_pos hw]
  have hln : (plT t (t.changes.length + 1)).log.length = t.changes.length + 1 := logT_len _ _
  have hsl := hv.2.1
  have hen : entE (plT t (t.changes.length + 1)) (wT t t.changes.length) (i : Nat) = 0 := by
    unfold entE
    rw [if_neg (fun e => e htl), if_neg (by omega)]; exact hE
  have hP : posL (plT t (t.changes.length + 1)) (wT t t.changes.length) (i : Nat) = unitedV (posS (plT t (t.changes.length + 1)) (wT t t.changes.length) (i : Nat) (remV (plT t (t.changes.length + 1)) (wT t t.changes.length))) := if_pos hen
  have hmem : t.states ∈ remV (plT t (t.changes.length + 1)) (wT t t.changes.length) := (remV_mem hp.1.2.2.2.2.2.1.1).2 ⟨hco, hal⟩
  have hend := path_end hpa (t.states.length - 1 - i) i (by omega)
  have hin := posS_in hp hw (k := ((i : Nat) : Int)) ⟨by omega, by omega⟩
  have hcv : cov (ldT t i) (posS (plT t (t.changes.length + 1)) (wT t t.changes.length) (i : Nat) (remV (plT t (t.changes.length + 1)) (wT t t.changes.length))) := ⟨_, List.mem_map.2 ⟨t.states, hmem, rfl⟩, by rw [Int.toNat_natCast]; exact hend⟩
  have hcu := united_cov hcv
  obtain ⟨z, hz, hz1, hz2⟩ := hcu
  have hh := united_hull hin hz
  have hne : ¬ (posL (plT t (t.changes.length + 1)) (wT t t.changes.length) (i : Nat)).length = 0 := by
    rw [hP]
    intro e
    rw [List.eq_nil_of_length_eq_zero e] at hz; cases hz
  refine ⟨hen, ?_, by rw [hP]; exact ⟨z, hz, hz1, hz2⟩, ?_⟩
  · unfold hullE
    rw [if_neg (fun e => e hen), if_neg hne]
  · unfold hullX
    rw [if_neg hne, hP]
    simp only
    omega
theorem cond_step {P : Program} {c : Nat} {a b : Code} {s : List Value} {h : View} {O : Hp} {K : Exit → List Value → View → Hp → Prop} {v : Value} (hv : getS s c = v) (hk : OnB v fun t => match t with | true => codeK P a s h O K | false => codeK P b s h O K) : codeK P (.cond (.tmp c) a b) s h O K := by
  show evK s (.tmp c) _
  rw [evK_eq]
  show OnB (getS s c) _
  rw [hv]; exact hk
theorem f10 (t : Tr) (z5 z6 z7 z8 z9 : Ac) (l5 : t.changes.length ≤ 9223372036854775807) (l6 : t.states.length ≤ 9223372036854775807) (l7 : t.errors.length ≤ 9223372036854775807) (l8 : t.carried.length ≤ 9223372036854775807) (l9 : t.shown.length ≤ 9223372036854775807) (h : View) (hpw : PowV h) (O : Hp)
    (r5 : Rd h O z5.1 (t.changes.map zI)) (r6 : Rd h O z6.1 (t.states.map zI)) (r7 : Rd h O z7.1 (t.errors.map zI)) (r8 : Rd h O z8.1 (t.carried.map zI)) (r9 : Rd h O z9.1 (t.shown.map zI)) :
    GSpec Tryd.prog 10 [.agg ⟨trV t z5 z6 z7 z8 z9⟩] h O (Ret O (.bool true)) := by
  have e16 := fun O => f16 h hpw O
  obtain ⟨a5, c5⟩ := z5
  obtain ⟨a6, c6⟩ := z6
  obtain ⟨a7, c7⟩ := z7
  obtain ⟨a8, c8⟩ := z8
  obtain ⟨a9, c9⟩ := z9
  simp only at r5 r6 r7 r8 r9
  show GSpec Tryd.prog 10 [.agg ⟨[.int .i64 t.noise, .int .i64 t.slab, .int .i64 t.jump, .int .i64 t.faults, .int .i64 t.first, .slice a5 t.changes.length c5, .slice a6 t.states.length c6, .slice a7 t.errors.length c7, .slice a8 t.carried.length c8, .slice a9 t.shown.length c9, .int .i64 t.slack]⟩] h O _
  by_cases hb : t.changes.length ≤ 9223372036854775806
  · by_cases hv : valT t
    · have hvv := id hv
      unfold valT at hv
      have hN := hv.2.1
      refine GSpec.enter (fn := Tryd.f10) Tryd.func10 rfl (by kernel_rfl) ?_
      repeat' (conv => whnf
               first
               | (((with_reducible refine CallSt.rd (f := 16) (X := .bool true) ?_ ?_); (· exact e16 _)))
               | (with_reducible refine NextSt.mk ?_)
               | (with_reducible refine OnBB.tt ?_)
               | (with_reducible refine OnBB.ff ?_)
               | ((with_reducible apply NW.addN); (· first | with_reducible rfl | exact natL _); (· first | with_reducible rfl | exact natL _); (· omega))
               | ((with_reducible apply Cmp.no); · first | omega | (with_reducible assumption))
               | ((with_reducible apply LoadSt.box); · (repeat (first | exact List.Mem.head _ | with_reducible apply List.mem_append_right | with_reducible apply List.mem_cons_of_mem)))
               | ((with_reducible refine AllocSt.mk ?_); intro _b _hb _hbO)
               | ((with_reducible apply StoreSt.box); (· (repeat (first | exact Upd.hd | apply Upd.tl | apply Upd.app))); (· rfl); (· rfl); (· rfl)))
      rename_i bt _ _
      obtain ⟨bp, hbp⟩ : ∃ x, x = _b := ⟨_, rfl⟩
      subst hbp
      refine LoopSt.fix [2, 5, 6, 7, 8, 9, 10, 107, 108, 109, 110, 111, 112, 113, 114, 115, 116, 117, 118, 119, 120, 121, 122, 123, 124, 125, 126, 127, 128, 129, 130, 131, 132, 133, 134, 135, 136, 137, 138, 139, 140, 141, 142, 143, 144, 145, 146, 147, 148, 149, 150, 151, 152, 153, 154, 155, 156, 157, 158, 159, 160, 161, 162, 163, 164, 165, 166, 167, 168, 169, 170, 171, 172, 173, 174, 175, 176, 177, 178, 179, 180, 181, 182, 183, 184, 185, 186, 187, 188, 189, 190, 191, 192, 193, 194, 195, 196, 197, 198, 199, 200, 201, 202, 203, 204, 205, 206, 207, 208, 209, 210, 211, 212, 213, 214, 215, 216, 217, 218, 219, 220, 221, 222, 223, 224, 225, 226, 227, 228, 229, 230, 231, 232, 233, 234, 235, 236, 237, 238, 239, 240, 241, 242, 243, 244, 245, 246, 247] (fun ((i, W, L, P) : Nat × Buf × Buf × Buf) => [(5, .slice W.a (i - 1) W.cap), (6, .slice L.a i L.cap), (7, .int .i64 (ldT t (i - 1))), (8, iN i)]) (fun (i, W, L, P) => W.hp 42 ((wT t (i - 1)).flatMap spV) ++ (L.hp 3 ((ldsT t i).map zI) ++ (P.hp 57 ((logT t i).flatMap shV) ++ ((bp, .cells ⟨[.int .i64 0, .int .i64 0, .int .i64 t.noise, .int .i64 t.slab, .int .i64 t.jump, .int .i64 t.faults, .slice P.a i P.cap]⟩ 24 (0, 0)) :: (bt, .cells ⟨[.int .i64 t.noise, .int .i64 t.slab, .int .i64 t.jump, .int .i64 t.faults, .int .i64 t.first, .slice a5 t.changes.length c5, .slice a6 t.states.length c6, .slice a7 t.errors.length c7, .slice a8 t.carried.length c8, .slice a9 t.shown.length c9, .int .i64 t.slack]⟩ 62 (0, 0)) :: O)))) (fun (i, W, L, P) => i ≤ t.changes.length + 1 ∧ (∀ j < i, dayT t j) ∧ W.ok 2 ((wT t (i - 1)).flatMap spV) (i - 1) ∧ L.ok 1 ((ldsT t i).map zI) i ∧ P.ok 2 ((logT t i).flatMap shV) i) (fun (i, _) => t.changes.length + 1 - i) ((0, Buf.nil, Buf.nil, Buf.nil)) _ (Wk.refl _ _) (rfl) ?_ ?_ ?_
      · repeat' (first | exact True.intro | refine And.intro ?_ ?_ | rfl | exact congrArg (Value.int _) (by omega) | exact congrArg (fun n => Value.slice _ n _) (by (try dsimp only); omega))
      · exact ⟨Nat.zero_le _, fun j hj => by omega, Buf.nil_ok 2, Buf.nil_ok 1, Buf.nil_ok 2⟩
      · rintro ⟨i, W, L, P⟩ d ⟨hi, hall, hW, hL, hP⟩
        dsimp only at hi hall hW hL hP ⊢
        by_cases hil : i < t.changes.length + 1
        · have hlS := ldsT_succ t i
          have hgS := logT_succ t i
          by_cases h0 : i = 0
          · as_aux_lemma =>
              subst h0
              have hl0 : ldT t 0 = t.first := rfl
              have hnext : dayT t 0 → ∀ j < 0 + 1, dayT t j := fun hc j hj => by
                have : j = 0 := by omega
                subst this; exact hc
              rw [show (0 - 1 : Nat) = 0 from rfl] at hW ⊢
              clear hall hvv
              repeat' (conv => whnf
                       first
                       | (((apply AppSt.lit1 (g := zI) (x := (ldT t 0)) (xs := ldsT t 0) (z := .int .i64 0)); (· (repeat (first | with_reducible exact Loc.hd | with_reducible exact Loc.last | with_reducible exact Loc.one | with_reducible apply Loc.tl | with_reducible apply Loc.skip))); (· exact hL); (· (repeat (first | exact List.Mem.head _ | with_reducible apply List.mem_append_right | with_reducible apply List.mem_cons_of_mem))); (· rfl); (· rfl); (· rfl); (· rfl); (· rfl); (· rfl); (· (show _ * 8 ≤ _; omega)); (· omega); intro L1 hL1))
                       | (((apply AppSt.litm (g := shV) (x := ⟨((0 : Nat) : Int), t.shown.getD 0 0⟩) (xs := logT t 0) (s := 2) (z := .agg ⟨[.int .i64 0, .int .i64 0]⟩)); (· (repeat (first | with_reducible exact Loc.hd | with_reducible exact Loc.last | with_reducible exact Loc.one | with_reducible apply Loc.tl | with_reducible apply Loc.skip))); (· exact hP); (· (repeat (first | exact List.Mem.head _ | with_reducible apply List.mem_append_right | with_reducible apply List.mem_cons_of_mem))); (· rfl); (· rfl); (· rfl); (· rfl); (· rfl); (· rfl); (· rfl); (· (show _ * 16 ≤ _; omega)); (· omega); intro P1 hP1))
                       | (((apply AppSt.litm (g := shV) (x := ⟨((0 : Nat) : Int), (ldT t 0) - t.carried.getD 0 0 + t.errors.getD 0 0⟩) (xs := logT t 0) (s := 2) (z := .agg ⟨[.int .i64 0, .int .i64 0]⟩)); (· (repeat (first | with_reducible exact Loc.hd | with_reducible exact Loc.last | with_reducible exact Loc.one | with_reducible apply Loc.tl | with_reducible apply Loc.skip))); (· exact hP); (· (repeat (first | exact List.Mem.head _ | with_reducible apply List.mem_append_right | with_reducible apply List.mem_cons_of_mem))); (· rfl); (· rfl); (· rfl); (· rfl); (· rfl); (· rfl); (· rfl); (· (show _ * 16 ≤ _; omega)); (· omega); intro P1 hP1))
                       | ((with_reducible refine DrawSt.walk [0, 1, 2, 3, 4, 5, 6, 7, 8, 9, 10, 11, 12, 13, 14, 15, 16, 17, 18, 19, 20, 21, 22, 23, 24, 25, 26, 27, 28, 29, 30, 31, 32, 33, 34, 35, 36, 37, 38, 39, 40, 41, 42, 43, 44, 45, 46, 47, 48, 49, 50, 51, 52] mixed ?_ ?_); · decide +kernel)
                       | ((with_reducible refine DrawSt.walk [0, 1, 2, 3, 4, 5, 6, 7, 8, 9, 10, 11, 12, 13] mixed ?_ ?_); · decide +kernel)
                       | ((with_reducible apply LoadSt.rdZ); (· (repeat (first | with_reducible assumption | (with_reducible apply Rd.any; with_reducible assumption) | (with_reducible apply Buf.rd; with_reducible assumption) | (with_reducible apply Rd.appL; with_reducible assumption) | (with_reducible apply Rd.appL; with_reducible apply Buf.rd; with_reducible assumption) | (with_reducible apply Rd.ofH; with_reducible assumption) | (with_reducible apply Rd.ofH1; with_reducible assumption) | with_reducible apply Rd.cons | with_reducible apply Rd.appR))); · (first | omega | (simp only [List.length_map, List.length_append, List.length_cons, List.length_nil, List.length_take, List.length_drop, List.length_replicate, List.length_set] at *; omega)))
                       | (with_reducible refine NextSt.mk ?_)
                       | (with_reducible refine OnBB.tt ?_)
                       | (with_reducible refine OnBB.ff ?_)
                       | ((with_reducible apply NW.addN); (· first | with_reducible rfl | exact natL _); (· first | with_reducible rfl | exact natL _); (· omega))
                       | ((with_reducible apply NW.i64); · omega)
                       | ((with_reducible apply Cmp.yes); · first | omega | (with_reducible assumption) | (with_reducible rfl))
                       | ((with_reducible apply Cmp.no); · first | omega | (with_reducible assumption))
                       | ((with_reducible apply LoadSt.box); · (repeat (first | exact List.Mem.head _ | with_reducible apply List.mem_append_right | with_reducible apply List.mem_cons_of_mem)))
                       | ((with_reducible refine AllocSt.mk ?_); intro _b _hb _hbO)
                       | ((with_reducible apply StoreSt.box); (· (repeat (first | exact Upd.hd | apply Upd.tl | apply Upd.app))); (· rfl); (· rfl); (· rfl))
                       | ((with_reducible apply IdxSl.rd1); (· with_reducible assumption); (· rfl); (· first | with_reducible rfl | exact natL _); (· (first | omega | (simp only [List.length_map, List.length_append, List.length_cons, List.length_nil, List.length_take, List.length_drop, List.length_replicate, List.length_set] at *; omega))); · (first | omega | (simp only [List.length_map, List.length_append, List.length_cons, List.length_nil, List.length_take, List.length_drop, List.length_replicate, List.length_set] at *; omega)))
                       | ((with_reducible refine Cmp.mk ?_ ?_) <;> intro _hc))
              all_goals first
                | ((conv => whnf); refine FinSt.ret (by (try dsimp only); (try simp only [List.cons_append, List.nil_append]); (repeat (first | with_reducible exact List.Sublist.refl _ | with_reducible exact List.nil_sublist _ | with_reducible apply List.Sublist.cons_cons | with_reducible apply sub_app | apply List.Sublist.cons_cons | apply sub_app | with_reducible apply List.Sublist.cons | with_reducible apply sub_skip))) ?_; rfl)
                | skip
              all_goals
                have hday : dayT t 0 := by unfold dayT; exact ⟨fun _ => by omega, by omega, fun hne => ⟨by omega, by omega, fun hs => by omega⟩⟩
                have hnx := hnext hday
                have hlV : ldsT t (0 + 1) = ldsT t 0 ++ [(ldT t 0)] := by rw [hlS]
                first
                | (have hst2 : t.states.getD 0 0 = 2 := by omega
                   have hsv : shT t 0 = t.shown.getD 0 0 := by unfold shT; exact if_neg (fun e => e hst2)
                   have hgV : logT t (0 + 1) = logT t 0 ++ [⟨((0 : Nat) : Int), t.shown.getD 0 0⟩] := by rw [hgS, hsv]
                   refine RoundFix.mk (0 + 1, W, L1, P1) ?_ ?_ _ rfl (by dsimp only; rw [hlV, hgV]; exact Wk.drop (by (try dsimp only); (try simp only [List.cons_append, List.nil_append]); (repeat (first | with_reducible exact List.Sublist.refl _ | with_reducible exact List.nil_sublist _ | with_reducible apply List.Sublist.cons_cons | with_reducible apply sub_app | apply List.Sublist.cons_cons | apply sub_app | with_reducible apply List.Sublist.cons | with_reducible apply sub_skip)))) ?_
                   · dsimp only; omega
                   · repeat' (first | exact True.intro | refine And.intro ?_ ?_ | rfl | exact congrArg (Value.int _) (by omega) | exact congrArg (fun n => Value.slice _ n _) (by (try dsimp only); omega))
                   · exact ⟨hil, hnx, hW, by dsimp only; rw [hlV]; exact hL1, by dsimp only; rw [hgV]; exact hP1⟩)
                | (have hst2 : t.states.getD 0 0 ≠ 2 := by omega
                   have hsv : shT t 0 = (ldT t 0) - t.carried.getD 0 0 + t.errors.getD 0 0 := by unfold shT; rw [if_pos hst2]
                   have hgV : logT t (0 + 1) = logT t 0 ++ [⟨((0 : Nat) : Int), (ldT t 0) - t.carried.getD 0 0 + t.errors.getD 0 0⟩] := by rw [hgS, hsv]
                   refine RoundFix.mk (0 + 1, W, L1, P1) ?_ ?_ _ rfl (by dsimp only; rw [hlV, hgV]; exact Wk.drop (by (try dsimp only); (try simp only [List.cons_append, List.nil_append]); (repeat (first | with_reducible exact List.Sublist.refl _ | with_reducible exact List.nil_sublist _ | with_reducible apply List.Sublist.cons_cons | with_reducible apply sub_app | apply List.Sublist.cons_cons | apply sub_app | with_reducible apply List.Sublist.cons | with_reducible apply sub_skip)))) ?_
                   · dsimp only; omega
                   · repeat' (first | exact True.intro | refine And.intro ?_ ?_ | rfl | exact congrArg (Value.int _) (by omega) | exact congrArg (fun n => Value.slice _ n _) (by (try dsimp only); omega))
                   · exact ⟨hil, hnx, hW, by dsimp only; rw [hlV]; exact hL1, by dsimp only; rw [hgV]; exact hP1⟩)
          · as_aux_lemma =>
              have hl1 : ldT t i = ldT t (i - 1) + t.changes.getD (i - 1) 0 := by
                obtain ⟨j, rfl⟩ : ∃ j, i = j + 1 := ⟨i - 1, by omega⟩
                rfl
              have hwS : wT t i = wT t (i - 1) ++ [⟨t.changes.getD (i - 1) 0 - t.slack, t.changes.getD (i - 1) 0 + t.slack⟩] := by
                have := wT_succ t (i - 1)
                rwa [Nat.sub_add_cancel (by omega)] at this
              have hpd := hall (i - 1) (by omega)
              have hpl := hpd.2.1
              have hnext : dayT t i → ∀ j < i + 1, dayT t j := fun hc j hj => by
                by_cases e : j = i
                · rw [e]; exact hc
                · exact hall j (by omega)
              have hi1 : i - 1 + 1 = i := by omega
              clear hall hpd hvv
              repeat' (conv => whnf
                       first
                       | (((with_reducible refine NextSt.mk ?_); (with_reducible show codeK _ (Code.cond (Operand.tmp 143) _ _) _ _ _ _); first | refine cond_step (v := Value.bool true) rfl ?_ | refine cond_step (v := Value.bool false) rfl ?_))
                       | (((apply AppSt.litm (g := spV) (x := ⟨t.changes.getD (i - 1) 0 - t.slack, t.changes.getD (i - 1) 0 + t.slack⟩) (xs := wT t (i - 1)) (s := 2) (z := .agg ⟨[.int .i64 0, .int .i64 0]⟩)); (· (repeat (first | with_reducible exact Loc.hd | with_reducible exact Loc.last | with_reducible exact Loc.one | with_reducible apply Loc.tl | with_reducible apply Loc.skip))); (· exact hW); (· (repeat (first | exact List.Mem.head _ | with_reducible apply List.mem_append_right | with_reducible apply List.mem_cons_of_mem))); (· rfl); (· rfl); (· rfl); (· rfl); (· rfl); (· rfl); (· rfl); (· (show _ * 16 ≤ _; omega)); (· omega); intro W1 hW1))
                       | (((apply AppSt.lit1 (g := zI) (x := (ldT t (i - 1) + t.changes.getD (i - 1) 0)) (xs := ldsT t i) (z := .int .i64 0)); (· (repeat (first | with_reducible exact Loc.hd | with_reducible exact Loc.last | with_reducible exact Loc.one | with_reducible apply Loc.tl | with_reducible apply Loc.skip))); (· exact hL); (· (repeat (first | exact List.Mem.head _ | with_reducible apply List.mem_append_right | with_reducible apply List.mem_cons_of_mem))); (· rfl); (· rfl); (· rfl); (· rfl); (· rfl); (· rfl); (· (show _ * 8 ≤ _; omega)); (· omega); intro L1 hL1))
                       | (((apply AppSt.litm (g := shV) (x := ⟨((i : Nat) : Int), t.shown.getD i 0⟩) (xs := logT t i) (s := 2) (z := .agg ⟨[.int .i64 0, .int .i64 0]⟩)); (· (repeat (first | with_reducible exact Loc.hd | with_reducible exact Loc.last | with_reducible exact Loc.one | with_reducible apply Loc.tl | with_reducible apply Loc.skip))); (· exact hP); (· (repeat (first | exact List.Mem.head _ | with_reducible apply List.mem_append_right | with_reducible apply List.mem_cons_of_mem))); (· rfl); (· rfl); (· rfl); (· rfl); (· rfl); (· rfl); (· rfl); (· (show _ * 16 ≤ _; omega)); (· omega); intro P1 hP1))
                       | (((apply AppSt.litm (g := shV) (x := ⟨((i : Nat) : Int), (ldT t (i - 1) + t.changes.getD (i - 1) 0) - t.carried.getD i 0 + t.errors.getD i 0⟩) (xs := logT t i) (s := 2) (z := .agg ⟨[.int .i64 0, .int .i64 0]⟩)); (· (repeat (first | with_reducible exact Loc.hd | with_reducible exact Loc.last | with_reducible exact Loc.one | with_reducible apply Loc.tl | with_reducible apply Loc.skip))); (· exact hP); (· (repeat (first | exact List.Mem.head _ | with_reducible apply List.mem_append_right | with_reducible apply List.mem_cons_of_mem))); (· rfl); (· rfl); (· rfl); (· rfl); (· rfl); (· rfl); (· rfl); (· (show _ * 16 ≤ _; omega)); (· omega); intro P1 hP1))
                       | ((with_reducible refine DrawSt.walk [0, 1, 2, 3, 4, 5, 6, 7, 8, 9, 10, 11, 12, 13, 14, 15, 16, 17, 18, 19, 20, 21, 22, 23, 24, 25, 26, 27, 28, 29, 30, 31, 32, 33, 34, 35, 36, 37, 38, 39, 40, 41, 42, 43, 44, 45, 46, 47, 48, 49, 50, 51, 52] mixed ?_ ?_); · decide +kernel)
                       | ((with_reducible refine DrawSt.walk [0, 1, 2, 3, 4, 5, 6, 7, 8, 9, 10, 11, 12, 13] mixed ?_ ?_); · decide +kernel)
                       | ((with_reducible apply LoadSt.rdZ); (· (repeat (first | with_reducible assumption | (with_reducible apply Rd.any; with_reducible assumption) | (with_reducible apply Buf.rd; with_reducible assumption) | (with_reducible apply Rd.appL; with_reducible assumption) | (with_reducible apply Rd.appL; with_reducible apply Buf.rd; with_reducible assumption) | (with_reducible apply Rd.ofH; with_reducible assumption) | (with_reducible apply Rd.ofH1; with_reducible assumption) | with_reducible apply Rd.cons | with_reducible apply Rd.appR))); · (first | omega | (simp only [List.length_map, List.length_append, List.length_cons, List.length_nil, List.length_take, List.length_drop, List.length_replicate, List.length_set] at *; omega)))
                       | (with_reducible refine NextSt.mk ?_)
                       | (with_reducible refine OnBB.tt ?_)
                       | (with_reducible refine OnBB.ff ?_)
                       | ((with_reducible apply NW.addN); (· first | with_reducible rfl | exact natL _); (· first | with_reducible rfl | exact natL _); (· omega))
                       | ((with_reducible apply NW.subN); (· first | with_reducible rfl | exact natL _); (· first | with_reducible rfl | exact natL _); (· omega))
                       | ((with_reducible apply NW.i64); · omega)
                       | ((with_reducible apply Cmp.yes); · first | omega | (with_reducible assumption) | (with_reducible rfl))
                       | ((with_reducible apply LoadSt.box); · (repeat (first | exact List.Mem.head _ | with_reducible apply List.mem_append_right | with_reducible apply List.mem_cons_of_mem)))
                       | ((with_reducible refine AllocSt.mk ?_); intro _b _hb _hbO)
                       | ((with_reducible apply StoreSt.box); (· (repeat (first | exact Upd.hd | apply Upd.tl | apply Upd.app))); (· rfl); (· rfl); (· rfl))
                       | ((with_reducible apply IdxSl.rd1); (· with_reducible assumption); (· rfl); (· first | with_reducible rfl | exact natL _); (· (first | omega | (simp only [List.length_map, List.length_append, List.length_cons, List.length_nil, List.length_take, List.length_drop, List.length_replicate, List.length_set] at *; omega))); · (first | omega | (simp only [List.length_map, List.length_append, List.length_cons, List.length_nil, List.length_take, List.length_drop, List.length_replicate, List.length_set] at *; omega)))
                       | ((with_reducible refine Cmp.mk ?_ ?_) <;> intro _hc))
              all_goals first
                | ((conv => whnf); refine FinSt.ret (by (try dsimp only); (try simp only [List.cons_append, List.nil_append]); (repeat (first | with_reducible exact List.Sublist.refl _ | with_reducible exact List.nil_sublist _ | with_reducible apply List.Sublist.cons_cons | with_reducible apply sub_app | apply List.Sublist.cons_cons | apply sub_app | with_reducible apply List.Sublist.cons | with_reducible apply sub_skip))) ?_; rfl)
                | skip
              all_goals
                have hday : dayT t i := by unfold dayT; rw [hl1]; exact ⟨fun _ => by omega, by omega, fun hne => ⟨by omega, by omega, fun hs => by omega⟩⟩
                have hnx := hnext hday
                have hlV : ldsT t (i + 1) = ldsT t i ++ [(ldT t (i - 1) + t.changes.getD (i - 1) 0)] := by rw [hlS, hl1]
                have hi2 : i + 1 - 1 = i := Nat.add_sub_cancel ..
                first
                | (have hst2 : t.states.getD i 0 = 2 := by omega
                   have hsv : shT t i = t.shown.getD i 0 := by unfold shT; exact if_neg (fun e => e hst2)
                   have hgV : logT t (i + 1) = logT t i ++ [⟨((i : Nat) : Int), t.shown.getD i 0⟩] := by rw [hgS, hsv]
                   refine RoundFix.mk (i + 1, W1, L1, P1) ?_ ?_ _ rfl (by dsimp only; rw [hlV, hgV, hi2, hwS]; exact Wk.drop (by (try dsimp only); (try simp only [List.cons_append, List.nil_append]); (repeat (first | with_reducible exact List.Sublist.refl _ | with_reducible exact List.nil_sublist _ | with_reducible apply List.Sublist.cons_cons | with_reducible apply sub_app | apply List.Sublist.cons_cons | apply sub_app | with_reducible apply List.Sublist.cons | with_reducible apply sub_skip)))) ?_
                   · dsimp only; omega
                   · repeat' (first | exact True.intro | refine And.intro ?_ ?_ | exact congrArg (Value.int _) hl1.symm | rfl | exact congrArg (Value.int _) (by omega) | exact congrArg (fun n => Value.slice _ n _) (by (try dsimp only); omega))
                   · exact ⟨hil, hnx, by dsimp only; rw [hi2, hwS]; rw [hi1] at hW1; exact hW1, by dsimp only; rw [hlV]; exact hL1, by dsimp only; rw [hgV]; exact hP1⟩)
                | (have hst2 : t.states.getD i 0 ≠ 2 := by omega
                   have hsv : shT t i = (ldT t (i - 1) + t.changes.getD (i - 1) 0) - t.carried.getD i 0 + t.errors.getD i 0 := by unfold shT; rw [if_pos hst2]; rw [hl1]
                   have hgV : logT t (i + 1) = logT t i ++ [⟨((i : Nat) : Int), (ldT t (i - 1) + t.changes.getD (i - 1) 0) - t.carried.getD i 0 + t.errors.getD i 0⟩] := by rw [hgS, hsv]
                   refine RoundFix.mk (i + 1, W1, L1, P1) ?_ ?_ _ rfl (by dsimp only; rw [hlV, hgV, hi2, hwS]; exact Wk.drop (by (try dsimp only); (try simp only [List.cons_append, List.nil_append]); (repeat (first | with_reducible exact List.Sublist.refl _ | with_reducible exact List.nil_sublist _ | with_reducible apply List.Sublist.cons_cons | with_reducible apply sub_app | apply List.Sublist.cons_cons | apply sub_app | with_reducible apply List.Sublist.cons | with_reducible apply sub_skip)))) ?_
                   · dsimp only; omega
                   · repeat' (first | exact True.intro | refine And.intro ?_ ?_ | exact congrArg (Value.int _) hl1.symm | rfl | exact congrArg (Value.int _) (by omega) | exact congrArg (fun n => Value.slice _ n _) (by (try dsimp only); omega))
                   · exact ⟨hil, hnx, by dsimp only; rw [hi2, hwS]; rw [hi1] at hW1; exact hW1, by dsimp only; rw [hlV]; exact hL1, by dsimp only; rw [hgV]; exact hP1⟩)
        · have hie : i = t.changes.length + 1 := by omega
          subst hie
          have hgl := logT_len t (t.changes.length + 1)
          have hpv : ∀ a c, plV (plT t (t.changes.length + 1)) a c = [.int .i64 0, .int .i64 0, .int .i64 t.noise, .int .i64 t.slab, .int .i64 t.jump, .int .i64 t.faults, .slice a (t.changes.length + 1) c] := fun a c => by unfold plV plT; rw [hgl]
          have hwl := wT_len t t.changes.length
          have hll := ldsT_len t (t.changes.length + 1)
          rw [Nat.add_sub_cancel] at hW ⊢
          have e38 := fun O hr hr2 => f38 (plT t (t.changes.length + 1)) t.states P.a a6 P.cap c6 (by show (logT t _).length ≤ _; omega) l6 h O hr hr2
          rw [hpv] at e38
          have hplr : (plT t (t.changes.length + 1)).log = logT t (t.changes.length + 1) := rfl
          rw [hplr] at e38
          by_cases hcv : caseV (plT t (t.changes.length + 1)) t.states = 0
          · obtain ⟨htd, hpa, hal⟩ := truth_told hvv hall hcv
            rw [hcv] at e38
            have hA : aliveT (plT t (t.changes.length + 1)) (wT t t.changes.length) t.states = .tuple ⟨[.bool true, .int .i64 0]⟩ := by unfold aliveT; rw [htd, decide_eq_true ⟨rfl, hal⟩]
            have e20 := fun O hr hr2 hr3 => f20 (plT t (t.changes.length + 1)) (wT t t.changes.length) t.states P.a W.a a6 P.cap W.cap c6 (by show (logT t _).length ≤ _; omega) (by omega) l6 h O hr hr2 hr3
            have e40 := fun O hr hr2 hr3 hr4 => f40 (plT t (t.changes.length + 1)) (wT t t.changes.length) t.states (ldsT t (t.changes.length + 1)) P.a W.a a6 L.a P.cap W.cap c6 L.cap (by show (logT t _).length ≤ _; omega) (by omega) l6 h O hr hr2 hr3 hr4
            have hwit : witV (plT t (t.changes.length + 1)) (wT t t.changes.length) t.states (ldsT t (t.changes.length + 1)) = 0 := by
              unfold witV
              rw [if_neg (fun e => e htd), if_pos]
              refine ⟨by omega, fun i hi => ?_⟩
              unfold witI
              rw [ldsT_get (by omega)]
              refine ⟨hpa.1 i hi, fun h0 => ?_⟩
              rw [ldsT_get (by omega)]
              have := hpa.2 (i - 1) (by omega)
              rwa [Nat.sub_add_cancel (by omega)] at this
            rw [hA, hpv, hplr, hwl] at e20
            rw [hwit, hpv, hplr, hwl, hll] at e40
            repeat' (conv => whnf
                     first
                     | (((with_reducible refine CallSt.rd (f := 38) (X := .int .i64 0) ?_ ?_); (· exact e38 _ (by (repeat (first | with_reducible assumption | (with_reducible apply Buf.rd; with_reducible assumption) | (with_reducible apply Rd.appL; with_reducible assumption) | (with_reducible apply Rd.appL; with_reducible apply Buf.rd; with_reducible assumption) | (with_reducible apply Rd.ofH; with_reducible assumption) | (with_reducible apply Rd.ofH1; with_reducible assumption) | with_reducible apply Rd.cons | with_reducible apply Rd.appR))) (by (repeat (first | with_reducible assumption | (with_reducible apply Buf.rd; with_reducible assumption) | (with_reducible apply Rd.appL; with_reducible assumption) | (with_reducible apply Rd.appL; with_reducible apply Buf.rd; with_reducible assumption) | (with_reducible apply Rd.ofH; with_reducible assumption) | (with_reducible apply Rd.ofH1; with_reducible assumption) | with_reducible apply Rd.cons | with_reducible apply Rd.appR))))))
                     | (((with_reducible refine CallSt.rd (f := 20) (X := .tuple ⟨[.bool true, .int .i64 0]⟩) ?_ ?_); (· exact e20 _ (by (repeat (first | with_reducible assumption | (with_reducible apply Buf.rd; with_reducible assumption) | (with_reducible apply Rd.appL; with_reducible assumption) | (with_reducible apply Rd.appL; with_reducible apply Buf.rd; with_reducible assumption) | (with_reducible apply Rd.ofH; with_reducible assumption) | (with_reducible apply Rd.ofH1; with_reducible assumption) | with_reducible apply Rd.cons | with_reducible apply Rd.appR))) (by (repeat (first | with_reducible assumption | (with_reducible apply Buf.rd; with_reducible assumption) | (with_reducible apply Rd.appL; with_reducible assumption) | (with_reducible apply Rd.appL; with_reducible apply Buf.rd; with_reducible assumption) | (with_reducible apply Rd.ofH; with_reducible assumption) | (with_reducible apply Rd.ofH1; with_reducible assumption) | with_reducible apply Rd.cons | with_reducible apply Rd.appR))) (by (repeat (first | with_reducible assumption | (with_reducible apply Buf.rd; with_reducible assumption) | (with_reducible apply Rd.appL; with_reducible assumption) | (with_reducible apply Rd.appL; with_reducible apply Buf.rd; with_reducible assumption) | (with_reducible apply Rd.ofH; with_reducible assumption) | (with_reducible apply Rd.ofH1; with_reducible assumption) | with_reducible apply Rd.cons | with_reducible apply Rd.appR))))))
                     | (((with_reducible refine CallSt.rd (f := 40) (X := .int .i64 0) ?_ ?_); (· exact e40 _ (by (repeat (first | with_reducible assumption | (with_reducible apply Buf.rd; with_reducible assumption) | (with_reducible apply Rd.appL; with_reducible assumption) | (with_reducible apply Rd.appL; with_reducible apply Buf.rd; with_reducible assumption) | (with_reducible apply Rd.ofH; with_reducible assumption) | (with_reducible apply Rd.ofH1; with_reducible assumption) | with_reducible apply Rd.cons | with_reducible apply Rd.appR))) (by (repeat (first | with_reducible assumption | (with_reducible apply Buf.rd; with_reducible assumption) | (with_reducible apply Rd.appL; with_reducible assumption) | (with_reducible apply Rd.appL; with_reducible apply Buf.rd; with_reducible assumption) | (with_reducible apply Rd.ofH; with_reducible assumption) | (with_reducible apply Rd.ofH1; with_reducible assumption) | with_reducible apply Rd.cons | with_reducible apply Rd.appR))) (by (repeat (first | with_reducible assumption | (with_reducible apply Buf.rd; with_reducible assumption) | (with_reducible apply Rd.appL; with_reducible assumption) | (with_reducible apply Rd.appL; with_reducible apply Buf.rd; with_reducible assumption) | (with_reducible apply Rd.ofH; with_reducible assumption) | (with_reducible apply Rd.ofH1; with_reducible assumption) | with_reducible apply Rd.cons | with_reducible apply Rd.appR))) (by (repeat (first | with_reducible assumption | (with_reducible apply Buf.rd; with_reducible assumption) | (with_reducible apply Rd.appL; with_reducible assumption) | (with_reducible apply Rd.appL; with_reducible apply Buf.rd; with_reducible assumption) | (with_reducible apply Rd.ofH; with_reducible assumption) | (with_reducible apply Rd.ofH1; with_reducible assumption) | with_reducible apply Rd.cons | with_reducible apply Rd.appR))))))
                     | (with_reducible refine NextSt.mk ?_)
                     | (with_reducible refine OnBB.tt ?_)
                     | (with_reducible refine OnBB.ff ?_)
                     | ((with_reducible apply Cmp.no); · first | omega | (with_reducible assumption))
                     | ((with_reducible apply LoadSt.box); · (repeat (first | exact List.Mem.head _ | with_reducible apply List.mem_append_right | with_reducible apply List.mem_cons_of_mem)))
                     | ((with_reducible apply LoadSt.boxAgg); · (repeat (first | exact List.Mem.head _ | with_reducible apply List.mem_append_right | with_reducible apply List.mem_cons_of_mem))))
            have e26 := fun (i : Nat) O hr hr2 => f26 (plT t (t.changes.length + 1)) (wT t t.changes.length) (i : Nat) P.a W.a P.cap W.cap (by show (logT t _).length ≤ _; omega) (by omega) h O hr hr2
            have e28 := fun (i : Nat) O hr hr2 => f28 (plT t (t.changes.length + 1)) (wT t t.changes.length) (i : Nat) P.a W.a P.cap W.cap (by show (logT t _).length ≤ _; omega) (by omega) h O hr hr2
            rw [hplr, hwl] at e26 e28
            have hlg := fun i (hi : i < t.changes.length + 1) => ldsT_get (t := t) hi
            refine LoopSt.fix [2, 13, 14, 15, 16, 17, 18, 19, 276, 277, 278, 279, 280, 281, 282, 283, 284, 285, 286, 287, 288, 289, 290, 291, 292, 293, 294, 295, 296, 297, 298, 299, 300, 301, 302, 303, 304, 305, 306, 307, 308, 309, 310, 311, 312, 313, 314, 315, 316, 317, 318, 319, 320, 321, 322, 323, 324, 325, 326, 327, 328, 329, 330, 331, 332, 333, 334, 335, 336, 337, 338, 339, 340, 341, 342, 343, 344, 345, 346, 347, 348, 349, 350, 351, 352, 353, 354, 355, 356, 357] (fun (i : Nat) => [(13, iN i)]) (fun _ => _) (fun i => i ≤ t.changes.length + 1) (fun i => t.changes.length + 1 - i) (0) _ (Wk.refl _ _) (rfl) ?_ ?_ ?_
            · repeat' (first | exact True.intro | refine And.intro ?_ ?_ | rfl | exact congrArg (Value.int _) (by omega) | exact congrArg (fun n => Value.slice _ n _) (by (try dsimp only); omega))
            · exact Nat.zero_le _
            · intro i d hi
              by_cases hin : i < t.changes.length + 1
              · have e26i := e26 i
                have e28i := e28 i
                rw [hpv] at e26i e28i
                by_cases hE : casesE (plT t (t.changes.length + 1)) (wT t t.changes.length) = 0
                · obtain ⟨hen, hhu, hcov, hx1, hx2⟩ := truth_pos hvv hin htd hpa hal hE
                  have hany := any_cov hcov
                  have hMl := (pos_in (plT t (t.changes.length + 1)) (wT t t.changes.length) (i : Nat)).2
                  rw [← hlg i hin] at hcov hx1 hx2 hany
                  unfold PosR at e26i
                  unfold hullT at e28i
                  rw [hen] at e26i
                  rw [hhu] at e28i
                  generalize posL (plT t (t.changes.length + 1)) (wT t t.changes.length) (i : Nat) = M at *
                  generalize hullX (plT t (t.changes.length + 1)) (wT t t.changes.length) (i : Nat) = X at *
                  clear e38 e20 e40 e16 e26 e28 hcov
                  repeat' (conv => whnf
                           first
                           | (((with_reducible refine CallSt.new (f := 26) (R := (fun v H => ∃ x, v = .tuple ⟨[x, .int .i64 0]⟩ ∧ LsR spV M x H)) ?_ ?_); (· exact e26i _ (by (repeat (first | with_reducible assumption | (with_reducible apply Buf.rd; with_reducible assumption) | (with_reducible apply Rd.appL; with_reducible assumption) | (with_reducible apply Rd.appL; with_reducible apply Buf.rd; with_reducible assumption) | (with_reducible apply Rd.ofH; with_reducible assumption) | (with_reducible apply Rd.ofH1; with_reducible assumption) | with_reducible apply Rd.cons | with_reducible apply Rd.appR))) (by (repeat (first | with_reducible assumption | (with_reducible apply Buf.rd; with_reducible assumption) | (with_reducible apply Rd.appL; with_reducible assumption) | (with_reducible apply Rd.appL; with_reducible apply Buf.rd; with_reducible assumption) | (with_reducible apply Rd.ofH; with_reducible assumption) | (with_reducible apply Rd.ofH1; with_reducible assumption) | with_reducible apply Rd.cons | with_reducible apply Rd.appR)))); rintro _ H1 ⟨_, rfl, ma, mc, rfl, mr, ml⟩))
                           | (((with_reducible refine CallSt.rd (f := 28) (X := .tuple ⟨[.agg ⟨spV X⟩, .int .i64 0]⟩) ?_ ?_); (· exact e28i _ (by (repeat (first | with_reducible assumption | (with_reducible apply Buf.rd; with_reducible assumption) | (with_reducible apply Rd.appL; with_reducible assumption) | (with_reducible apply Rd.appL; with_reducible apply Buf.rd; with_reducible assumption) | (with_reducible apply Rd.ofH; with_reducible assumption) | (with_reducible apply Rd.ofH1; with_reducible assumption) | with_reducible apply Rd.cons | with_reducible apply Rd.appR))) (by (repeat (first | with_reducible assumption | (with_reducible apply Buf.rd; with_reducible assumption) | (with_reducible apply Rd.appL; with_reducible assumption) | (with_reducible apply Rd.appL; with_reducible apply Buf.rd; with_reducible assumption) | (with_reducible apply Rd.ofH; with_reducible assumption) | (with_reducible apply Rd.ofH1; with_reducible assumption) | with_reducible apply Rd.cons | with_reducible apply Rd.appR))))))
                           | (with_reducible refine NextSt.mk ?_)
                           | (with_reducible refine OnBB.tt ?_)
                           | (with_reducible refine OnBB.ff ?_)
                           | ((with_reducible apply Cmp.yes); · first | omega | (with_reducible assumption) | (with_reducible rfl))
                           | ((with_reducible apply Cmp.no); · first | omega | (with_reducible assumption))
                           | ((with_reducible apply LoadSt.boxAgg); · (repeat (first | exact List.Mem.head _ | with_reducible apply List.mem_append_right | with_reducible apply List.mem_cons_of_mem)))
                           | ((with_reducible refine AllocSt.mk ?_); intro _b _hb _hbO)
                           | ((with_reducible apply StoreSt.box); (· (repeat (first | exact Upd.hd | apply Upd.tl | apply Upd.app))); (· rfl); (· rfl); (· rfl)))
                  refine LoopSt.fix [18, 19, 307, 308, 309, 310, 311, 312, 313, 314, 315, 316, 317, 318, 319, 320, 321, 322, 323, 324, 325, 326, 327, 328, 329, 330, 331, 332, 333, 334, 335, 336, 337] (fun (k : Nat) => [(18, .bool ((M.take k).any (inB ((ldsT t (t.changes.length + 1)).getD i 0)))), (19, iN k)]) (fun _ => _) (fun k => k ≤ M.length) (fun k => M.length - k) (0) _ (Wk.refl _ _) (rfl) ?_ ?_ ?_
                  · repeat' (first | exact True.intro | refine And.intro ?_ ?_ | rfl | exact congrArg (Value.int _) (by omega) | exact congrArg (fun n => Value.slice _ n _) (by (try dsimp only); omega))
                  · exact Nat.zero_le _
                  · intro k d hk
                    by_cases hkl : k < M.length
                    · as_aux_lemma =>
                        have hst := any_step (v := (ldsT t (t.changes.length + 1)).getD i 0) hkl
                        cases hbk : (M.take k).any (inB ((ldsT t (t.changes.length + 1)).getD i 0)) with
                        | true =>
                          rw [hbk, Bool.true_or] at hst
                          repeat' (conv => whnf
                                   first
                                   | ((with_reducible refine DrawSt.walk [0, 1, 2, 3, 4, 5, 6, 7, 8, 9, 10, 11, 12, 13, 14, 15, 16, 17, 18, 19, 20, 21, 22, 23, 24, 25] mixed ?_ ?_); · decide +kernel)
                                   | (with_reducible refine NextSt.mk ?_)
                                   | (with_reducible refine OnBB.tt ?_)
                                   | ((with_reducible apply NW.addN); (· first | with_reducible rfl | exact natL _); (· first | with_reducible rfl | exact natL _); (· omega))
                                   | ((with_reducible apply Cmp.yes); · first | omega | (with_reducible assumption) | (with_reducible rfl)))
                          refine RoundFix.mk (k + 1) ?_ ?_ _ rfl (Wk.drop (by (try dsimp only); (try simp only [List.cons_append, List.nil_append]); (repeat (first | with_reducible exact List.Sublist.refl _ | with_reducible exact List.nil_sublist _ | with_reducible apply List.Sublist.cons_cons | with_reducible apply sub_app | apply List.Sublist.cons_cons | apply sub_app | with_reducible apply List.Sublist.cons | with_reducible apply sub_skip)))) ?_
                          · omega
                          · repeat' (first | exact True.intro | refine And.intro ?_ ?_ | exact congrArg Value.bool hst.symm | rfl | exact congrArg (Value.int _) (by omega) | exact congrArg (fun n => Value.slice _ n _) (by (try dsimp only); omega))
                          · exact hkl
                        | false =>
                          rw [hbk, Bool.false_or] at hst
                          by_cases hx : (M.getD k default).lo ≤ (ldsT t (t.changes.length + 1)).getD i 0 ∧ (ldsT t (t.changes.length + 1)).getD i 0 ≤ (M.getD k default).hi
                          · have hst' := hst.trans (decide_eq_true hx)
                            obtain ⟨hxa, hxb⟩ := hx
                            repeat' (conv => whnf
                                     first
                                     | ((with_reducible refine DrawSt.walk [0, 1, 2, 3, 4, 5, 6, 7, 8, 9, 10, 11, 12, 13, 14, 15, 16, 17, 18, 19, 20, 21, 22, 23, 24, 25] mixed ?_ ?_); · decide +kernel)
                                     | ((with_reducible apply LoadSt.rdf (g := spV) (s := 2)); (· (repeat (first | with_reducible assumption | (with_reducible apply Rd.any; with_reducible assumption) | (with_reducible apply Buf.rd; with_reducible assumption) | (with_reducible apply Rd.appL; with_reducible assumption) | (with_reducible apply Rd.appL; with_reducible apply Buf.rd; with_reducible assumption) | (with_reducible apply Rd.ofH; with_reducible assumption) | (with_reducible apply Rd.ofH1; with_reducible assumption) | with_reducible apply Rd.cons | with_reducible apply Rd.appR))); (· exact fun _ => rfl); (· (first | omega | (simp only [List.length_map, List.length_append, List.length_cons, List.length_nil, List.length_take, List.length_drop, List.length_replicate, List.length_set] at *; omega))); (· decide))
                                     | ((with_reducible apply IdxSl.rdg (g := spV) (s := 2)); (· with_reducible assumption); (· exact fun _ => rfl); (· decide); (· rfl); (· first | with_reducible rfl | exact natL _); (· (first | omega | (simp only [List.length_map, List.length_append, List.length_cons, List.length_nil, List.length_take, List.length_drop, List.length_replicate, List.length_set] at *; omega))); · (first | omega | (simp only [List.length_map, List.length_append, List.length_cons, List.length_nil, List.length_take, List.length_drop, List.length_replicate, List.length_set] at *; omega)))
                                     | ((with_reducible apply LoadSt.rdZ); (· (repeat (first | with_reducible assumption | (with_reducible apply Rd.any; with_reducible assumption) | (with_reducible apply Buf.rd; with_reducible assumption) | (with_reducible apply Rd.appL; with_reducible assumption) | (with_reducible apply Rd.appL; with_reducible apply Buf.rd; with_reducible assumption) | (with_reducible apply Rd.ofH; with_reducible assumption) | (with_reducible apply Rd.ofH1; with_reducible assumption) | with_reducible apply Rd.cons | with_reducible apply Rd.appR))); · (first | omega | (simp only [List.length_map, List.length_append, List.length_cons, List.length_nil, List.length_take, List.length_drop, List.length_replicate, List.length_set] at *; omega)))
                                     | (with_reducible refine NextSt.mk ?_)
                                     | (with_reducible refine OnBB.tt ?_)
                                     | (with_reducible refine OnBB.ff ?_)
                                     | ((with_reducible apply NW.addN); (· first | with_reducible rfl | exact natL _); (· first | with_reducible rfl | exact natL _); (· omega))
                                     | ((with_reducible apply Cmp.yes); · first | omega | (with_reducible assumption) | (with_reducible rfl))
                                     | ((with_reducible apply IdxSl.buf1); (· with_reducible assumption); (· rfl); (· rfl); (· first | with_reducible rfl | exact natL _); · (first | omega | (simp only [List.length_map, List.length_append, List.length_cons, List.length_nil, List.length_take, List.length_drop, List.length_replicate, List.length_set] at *; omega))))
                            refine RoundFix.mk (k + 1) ?_ ?_ _ rfl (Wk.drop (by (try dsimp only); (try simp only [List.cons_append, List.nil_append]); (repeat (first | with_reducible exact List.Sublist.refl _ | with_reducible exact List.nil_sublist _ | with_reducible apply List.Sublist.cons_cons | with_reducible apply sub_app | apply List.Sublist.cons_cons | apply sub_app | with_reducible apply List.Sublist.cons | with_reducible apply sub_skip)))) ?_
                            · omega
                            · repeat' (first | exact True.intro | refine And.intro ?_ ?_ | exact congrArg Value.bool hst'.symm | rfl | exact congrArg (Value.int _) (by omega) | exact congrArg (fun n => Value.slice _ n _) (by (try dsimp only); omega))
                            · exact hkl
                          · have hst' := hst.trans (decide_eq_false hx)
                            repeat' (conv => whnf
                                     first
                                     | ((with_reducible refine DrawSt.walk [0, 1, 2, 3, 4, 5, 6, 7, 8, 9, 10, 11, 12, 13, 14, 15, 16, 17, 18, 19, 20, 21, 22, 23, 24, 25] mixed ?_ ?_); · decide +kernel)
                                     | ((with_reducible apply LoadSt.rdf (g := spV) (s := 2)); (· (repeat (first | with_reducible assumption | (with_reducible apply Rd.any; with_reducible assumption) | (with_reducible apply Buf.rd; with_reducible assumption) | (with_reducible apply Rd.appL; with_reducible assumption) | (with_reducible apply Rd.appL; with_reducible apply Buf.rd; with_reducible assumption) | (with_reducible apply Rd.ofH; with_reducible assumption) | (with_reducible apply Rd.ofH1; with_reducible assumption) | with_reducible apply Rd.cons | with_reducible apply Rd.appR))); (· exact fun _ => rfl); (· (first | omega | (simp only [List.length_map, List.length_append, List.length_cons, List.length_nil, List.length_take, List.length_drop, List.length_replicate, List.length_set] at *; omega))); (· decide))
                                     | ((with_reducible apply IdxSl.rdg (g := spV) (s := 2)); (· with_reducible assumption); (· exact fun _ => rfl); (· decide); (· rfl); (· first | with_reducible rfl | exact natL _); (· (first | omega | (simp only [List.length_map, List.length_append, List.length_cons, List.length_nil, List.length_take, List.length_drop, List.length_replicate, List.length_set] at *; omega))); · (first | omega | (simp only [List.length_map, List.length_append, List.length_cons, List.length_nil, List.length_take, List.length_drop, List.length_replicate, List.length_set] at *; omega)))
                                     | ((with_reducible apply LoadSt.rdZ); (· (repeat (first | with_reducible assumption | (with_reducible apply Rd.any; with_reducible assumption) | (with_reducible apply Buf.rd; with_reducible assumption) | (with_reducible apply Rd.appL; with_reducible assumption) | (with_reducible apply Rd.appL; with_reducible apply Buf.rd; with_reducible assumption) | (with_reducible apply Rd.ofH; with_reducible assumption) | (with_reducible apply Rd.ofH1; with_reducible assumption) | with_reducible apply Rd.cons | with_reducible apply Rd.appR))); · (first | omega | (simp only [List.length_map, List.length_append, List.length_cons, List.length_nil, List.length_take, List.length_drop, List.length_replicate, List.length_set] at *; omega)))
                                     | (with_reducible refine NextSt.mk ?_)
                                     | (with_reducible refine OnBB.tt ?_)
                                     | (with_reducible refine OnBB.ff ?_)
                                     | ((with_reducible apply NW.addN); (· first | with_reducible rfl | exact natL _); (· first | with_reducible rfl | exact natL _); (· omega))
                                     | ((with_reducible apply Cmp.yes); · first | omega | (with_reducible assumption) | (with_reducible rfl))
                                     | ((with_reducible apply Cmp.no); · first | omega | (with_reducible assumption))
                                     | ((with_reducible apply IdxSl.buf1); (· with_reducible assumption); (· rfl); (· rfl); (· first | with_reducible rfl | exact natL _); · (first | omega | (simp only [List.length_map, List.length_append, List.length_cons, List.length_nil, List.length_take, List.length_drop, List.length_replicate, List.length_set] at *; omega)))
                                     | ((with_reducible refine Cmp.mk ?_ ?_) <;> intro _hc))
                            all_goals
                              refine RoundFix.mk (k + 1) ?_ ?_ _ rfl (Wk.drop (by (try dsimp only); (try simp only [List.cons_append, List.nil_append]); (repeat (first | with_reducible exact List.Sublist.refl _ | with_reducible exact List.nil_sublist _ | with_reducible apply List.Sublist.cons_cons | with_reducible apply sub_app | apply List.Sublist.cons_cons | apply sub_app | with_reducible apply List.Sublist.cons | with_reducible apply sub_skip)))) ?_
                              · omega
                              · repeat' (first | exact True.intro | refine And.intro ?_ ?_ | exact congrArg Value.bool hst'.symm | rfl | exact congrArg (Value.int _) (by omega) | exact congrArg (fun n => Value.slice _ n _) (by (try dsimp only); omega))
                              · exact hkl
                    · as_aux_lemma =>
                        have hke : k = M.length := by omega
                        subst hke
                        rw [List.take_length, hany]
                        repeat' (conv => whnf
                                 first
                                 | ((with_reducible refine DrawSt.walk [0, 1, 2, 3, 4, 5, 6, 7, 8, 9, 10, 11, 12, 13, 14, 15, 16, 17, 18, 19] mixed ?_ ?_); · decide +kernel)
                                 | ((with_reducible apply LoadSt.rdZ); (· (repeat (first | with_reducible assumption | (with_reducible apply Rd.any; with_reducible assumption) | (with_reducible apply Buf.rd; with_reducible assumption) | (with_reducible apply Rd.appL; with_reducible assumption) | (with_reducible apply Rd.appL; with_reducible apply Buf.rd; with_reducible assumption) | (with_reducible apply Rd.ofH; with_reducible assumption) | (with_reducible apply Rd.ofH1; with_reducible assumption) | with_reducible apply Rd.cons | with_reducible apply Rd.appR))); · (first | omega | (simp only [List.length_map, List.length_append, List.length_cons, List.length_nil, List.length_take, List.length_drop, List.length_replicate, List.length_set] at *; omega)))
                                 | (with_reducible refine NextSt.mk ?_)
                                 | (with_reducible refine OnBB.tt ?_)
                                 | (with_reducible refine OnBB.ff ?_)
                                 | ((with_reducible apply NW.addN); (· first | with_reducible rfl | exact natL _); (· first | with_reducible rfl | exact natL _); (· omega))
                                 | ((with_reducible apply Cmp.no); · first | omega | (with_reducible assumption))
                                 | ((with_reducible apply LoadSt.box); · (repeat (first | exact List.Mem.head _ | with_reducible apply List.mem_append_right | with_reducible apply List.mem_cons_of_mem)))
                                 | ((with_reducible apply IdxSl.buf1); (· with_reducible assumption); (· rfl); (· rfl); (· first | with_reducible rfl | exact natL _); · (first | omega | (simp only [List.length_map, List.length_append, List.length_cons, List.length_nil, List.length_take, List.length_drop, List.length_replicate, List.length_set] at *; omega))))
                        refine RoundFix.mk (i + 1) ?_ ?_ _ rfl (Wk.drop (by (try dsimp only); (try simp only [List.cons_append, List.nil_append]); (repeat (first | with_reducible exact List.Sublist.refl _ | with_reducible exact List.nil_sublist _ | with_reducible apply List.Sublist.cons_cons | with_reducible apply sub_app | apply List.Sublist.cons_cons | apply sub_app | with_reducible apply List.Sublist.cons | with_reducible apply sub_skip)))) ?_
                        · omega
                        · repeat' (first | exact True.intro | refine And.intro ?_ ?_ | rfl | exact congrArg (Value.int _) (by omega) | exact congrArg (fun n => Value.slice _ n _) (by (try dsimp only); omega))
                        · exact hin
                · as_aux_lemma =>
                    obtain ⟨hp, hw, hco⟩ := told_ok htd
                    have htl : tellV (plT t (t.changes.length + 1)) (wT t t.changes.length) = 0 := by unfold tellV; rw [if_pos hp, if_pos hw]
                    have hE2 : casesE (plT t (t.changes.length + 1)) (wT t t.changes.length) = 2 := by
                      by_cases hm : 64 < (remV (plT t (t.changes.length + 1)) (wT t t.changes.length)).length
                      · exact casesE_many htl hm
                      · exact absurd (casesE_ok htl hm) hE
                    have hpn : (plT t (t.changes.length + 1)).log.length = t.changes.length + 1 := logT_len _ _
                    have hen : entE (plT t (t.changes.length + 1)) (wT t t.changes.length) (i : Nat) = 2 := by
                      unfold entE
                      rw [if_neg (fun e => e htl), if_neg (by omega)]; exact hE2
                    have hhu : hullE (plT t (t.changes.length + 1)) (wT t t.changes.length) (i : Nat) = 2 := by
                      unfold hullE
                      rw [hen, if_pos (by decide)]
                    unfold PosR at e26i
                    unfold hullT at e28i
                    rw [hen] at e26i
                    rw [hhu] at e28i
                    generalize posL (plT t (t.changes.length + 1)) (wT t t.changes.length) (i : Nat) = M at *
                    generalize hullX (plT t (t.changes.length + 1)) (wT t t.changes.length) (i : Nat) = X at *
                    clear e38 e20 e40 e16 e26 e28
                    repeat' (conv => whnf
                             first
                             | (((with_reducible refine CallSt.new (f := 26) (R := (fun v H => ∃ x, v = .tuple ⟨[x, .int .i64 2]⟩ ∧ LsR spV M x H)) ?_ ?_); (· exact e26i _ (by (repeat (first | with_reducible assumption | (with_reducible apply Buf.rd; with_reducible assumption) | (with_reducible apply Rd.appL; with_reducible assumption) | (with_reducible apply Rd.appL; with_reducible apply Buf.rd; with_reducible assumption) | (with_reducible apply Rd.ofH; with_reducible assumption) | (with_reducible apply Rd.ofH1; with_reducible assumption) | with_reducible apply Rd.cons | with_reducible apply Rd.appR))) (by (repeat (first | with_reducible assumption | (with_reducible apply Buf.rd; with_reducible assumption) | (with_reducible apply Rd.appL; with_reducible assumption) | (with_reducible apply Rd.appL; with_reducible apply Buf.rd; with_reducible assumption) | (with_reducible apply Rd.ofH; with_reducible assumption) | (with_reducible apply Rd.ofH1; with_reducible assumption) | with_reducible apply Rd.cons | with_reducible apply Rd.appR)))); rintro _ H1 ⟨_, rfl, ma, mc, rfl, mr, ml⟩))
                             | (((with_reducible refine CallSt.rd (f := 28) (X := .tuple ⟨[.agg ⟨spV X⟩, .int .i64 2]⟩) ?_ ?_); (· exact e28i _ (by (repeat (first | with_reducible assumption | (with_reducible apply Buf.rd; with_reducible assumption) | (with_reducible apply Rd.appL; with_reducible assumption) | (with_reducible apply Rd.appL; with_reducible apply Buf.rd; with_reducible assumption) | (with_reducible apply Rd.ofH; with_reducible assumption) | (with_reducible apply Rd.ofH1; with_reducible assumption) | with_reducible apply Rd.cons | with_reducible apply Rd.appR))) (by (repeat (first | with_reducible assumption | (with_reducible apply Buf.rd; with_reducible assumption) | (with_reducible apply Rd.appL; with_reducible assumption) | (with_reducible apply Rd.appL; with_reducible apply Buf.rd; with_reducible assumption) | (with_reducible apply Rd.ofH; with_reducible assumption) | (with_reducible apply Rd.ofH1; with_reducible assumption) | with_reducible apply Rd.cons | with_reducible apply Rd.appR))))))
                             | (with_reducible refine NextSt.mk ?_)
                             | (with_reducible refine OnBB.tt ?_)
                             | ((with_reducible apply Cmp.yes); · first | omega | (with_reducible assumption) | (with_reducible rfl))
                             | ((with_reducible apply LoadSt.boxAgg); · (repeat (first | exact List.Mem.head _ | with_reducible apply List.mem_append_right | with_reducible apply List.mem_cons_of_mem)))
                             | ((with_reducible refine AllocSt.mk ?_); intro _b _hb _hbO)
                             | ((with_reducible apply StoreSt.box); (· (repeat (first | exact Upd.hd | apply Upd.tl | apply Upd.app))); (· rfl); (· rfl); (· rfl)))
                    conv => whnf
                    refine FinSt.ret (by (try dsimp only); (try simp only [List.cons_append, List.nil_append]); (repeat (first | with_reducible exact List.Sublist.refl _ | with_reducible exact List.nil_sublist _ | with_reducible apply List.Sublist.cons_cons | with_reducible apply sub_app | apply List.Sublist.cons_cons | apply sub_app | with_reducible apply List.Sublist.cons | with_reducible apply sub_skip))) ?_
                    rfl
              · repeat' (conv => whnf
                         first
                         | (with_reducible refine NextSt.mk ?_)
                         | (with_reducible refine OnBB.ff ?_)
                         | ((with_reducible apply Cmp.no); · first | omega | (with_reducible assumption)))
                conv => whnf
                refine FinSt.ret (by (try dsimp only); (try simp only [List.cons_append, List.nil_append]); (repeat (first | with_reducible exact List.Sublist.refl _ | with_reducible exact List.nil_sublist _ | with_reducible apply List.Sublist.cons_cons | with_reducible apply sub_app | apply List.Sublist.cons_cons | apply sub_app | with_reducible apply List.Sublist.cons | with_reducible apply sub_skip))) ?_
                rfl
          · as_aux_lemma =>
              repeat' (conv => whnf
                       first
                       | (((with_reducible refine CallSt.rd (f := 38) (X := .int .i64 (caseV (plT t (t.changes.length + 1)) t.states)) ?_ ?_); (· exact e38 _ (by (repeat (first | with_reducible assumption | (with_reducible apply Buf.rd; with_reducible assumption) | (with_reducible apply Rd.appL; with_reducible assumption) | (with_reducible apply Rd.appL; with_reducible apply Buf.rd; with_reducible assumption) | (with_reducible apply Rd.ofH; with_reducible assumption) | (with_reducible apply Rd.ofH1; with_reducible assumption) | with_reducible apply Rd.cons | with_reducible apply Rd.appR))) (by (repeat (first | with_reducible assumption | (with_reducible apply Buf.rd; with_reducible assumption) | (with_reducible apply Rd.appL; with_reducible assumption) | (with_reducible apply Rd.appL; with_reducible apply Buf.rd; with_reducible assumption) | (with_reducible apply Rd.ofH; with_reducible assumption) | (with_reducible apply Rd.ofH1; with_reducible assumption) | with_reducible apply Rd.cons | with_reducible apply Rd.appR))))))
                       | (with_reducible refine NextSt.mk ?_)
                       | (with_reducible refine OnBB.tt ?_)
                       | (with_reducible refine OnBB.ff ?_)
                       | ((with_reducible apply Cmp.yes); · first | omega | (with_reducible assumption) | (with_reducible rfl))
                       | ((with_reducible apply Cmp.no); · first | omega | (with_reducible assumption))
                       | ((with_reducible apply LoadSt.box); · (repeat (first | exact List.Mem.head _ | with_reducible apply List.mem_append_right | with_reducible apply List.mem_cons_of_mem)))
                       | ((with_reducible apply LoadSt.boxAgg); · (repeat (first | exact List.Mem.head _ | with_reducible apply List.mem_append_right | with_reducible apply List.mem_cons_of_mem))))
              conv => whnf
              refine FinSt.ret (by (try dsimp only); (try simp only [List.cons_append, List.nil_append]); (repeat (first | with_reducible exact List.Sublist.refl _ | with_reducible exact List.nil_sublist _ | with_reducible apply List.Sublist.cons_cons | with_reducible apply sub_app | apply List.Sublist.cons_cons | apply sub_app | with_reducible apply List.Sublist.cons | with_reducible apply sub_skip))) ?_
              rfl
    · as_aux_lemma =>
        refine GSpec.enter (fn := Tryd.f10) Tryd.func10 rfl (by kernel_rfl) ?_
        repeat' (conv => whnf
                 first
                 | (((with_reducible refine CallSt.rd (f := 16) (X := .bool true) ?_ ?_); (· exact e16 _)))
                 | (with_reducible refine NextSt.mk ?_)
                 | (with_reducible refine OnBB.tt ?_)
                 | (with_reducible refine OnBB.ff ?_)
                 | ((with_reducible apply NW.addN); (· first | with_reducible rfl | exact natL _); (· first | with_reducible rfl | exact natL _); (· omega))
                 | ((with_reducible apply LoadSt.box); · (repeat (first | exact List.Mem.head _ | with_reducible apply List.mem_append_right | with_reducible apply List.mem_cons_of_mem)))
                 | ((with_reducible refine AllocSt.mk ?_); intro _b _hb _hbO)
                 | ((with_reducible apply StoreSt.box); (· (repeat (first | exact Upd.hd | apply Upd.tl | apply Upd.app))); (· rfl); (· rfl); (· rfl))
                 | ((with_reducible refine Cmp.mk ?_ ?_) <;> intro _hc))
        all_goals first | (exfalso; unfold valT at hv; omega) | ((conv => whnf); refine FinSt.ret (by (try dsimp only); (try simp only [List.cons_append, List.nil_append]); (repeat (first | with_reducible exact List.Sublist.refl _ | with_reducible exact List.nil_sublist _ | with_reducible apply List.Sublist.cons_cons | with_reducible apply sub_app | apply List.Sublist.cons_cons | apply sub_app | with_reducible apply List.Sublist.cons | with_reducible apply sub_skip))) ?_; rfl)
  · have hwr : IntKind.i64.wrap ((t.changes.length : Int) + 1) = -9223372036854775808 := by
      rw [show (t.changes.length : Int) = 9223372036854775807 by omega]; decide
    refine GSpec.enter (fn := Tryd.f10) Tryd.func10 rfl (by kernel_rfl) ?_
    repeat' (conv => whnf
             first
             | (((with_reducible refine CallSt.rd (f := 16) (X := .bool true) ?_ ?_); (· exact e16 _)))
             | ((refine NW.mk ?_; rw [hwr]))
             | (with_reducible refine NextSt.mk ?_)
             | (with_reducible refine OnBB.tt ?_)
             | (with_reducible refine OnBB.ff ?_)
             | ((with_reducible apply Cmp.yes); · first | omega | (with_reducible assumption) | (with_reducible rfl))
             | ((with_reducible apply Cmp.no); · first | omega | (with_reducible assumption))
             | ((with_reducible apply LoadSt.box); · (repeat (first | exact List.Mem.head _ | with_reducible apply List.mem_append_right | with_reducible apply List.mem_cons_of_mem)))
             | ((with_reducible refine AllocSt.mk ?_); intro _b _hb _hbO))
    conv => whnf
    refine FinSt.ret (by (try dsimp only); (try simp only [List.cons_append, List.nil_append]); (repeat (first | with_reducible exact List.Sublist.refl _ | with_reducible exact List.nil_sublist _ | with_reducible apply List.Sublist.cons_cons | with_reducible apply sub_app | apply List.Sublist.cons_cons | apply sub_app | with_reducible apply List.Sublist.cons | with_reducible apply sub_skip))) ?_
    rfl
end Go.Proofs.YtaahjlhfmkjefaaDoor
