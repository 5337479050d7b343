/- Functions of the reference: Possible, Hull, Sure. -/
import Derived.Test.YtaahjlhfmkjefaaDoorMr
import Derived.Test.YtaahjlhfmkjefaaDoorMh
set_option linter.unusedVariables false
set_option linter.unusedSimpArgs false
set_option linter.unusedSectionVars false
/- The reference: what is possible at an entry. -/
namespace Go.Proofs.YtaahjlhfmkjefaaDoor
open Go Go.Gv
set_option maxRecDepth 100000
set_option maxHeartbeats 16000000
set_option linter.unusedSimpArgs false
set_option linter.unusedVariables false
/-- The spans put in order so far. -/
def posM (p : Pl) (w : List Sp) (k : Int) (ls : List (List Int)) (i : Nat) : List Sp := sortS (posS p w k (ls.take i))
theorem posM_len {p : Pl} {w : List Sp} {k : Int} {ls : List (List Int)} {i : Nat} (h : i ≤ ls.length) : (posM p w k ls i).length = i := by
  unfold posM; rw [sortS_len]; unfold posS; rw [List.length_map, List.length_take]; omega
theorem posM_step {p : Pl} {w : List Sp} {k : Int} {ls : List (List Int)} {i : Nat} (h : i < ls.length) : posM p w k ls (i + 1) = insS (posM p w k ls i) (endI p w (ls.getD i []) k.toNat) := by
  unfold posM; rw [posS_step h, sortS_push]
theorem posM_in {p : Pl} {w : List Sp} {k : Int} (hp : pOk p) (hw : wOk p w) (hk : 0 ≤ k ∧ k < p.log.length) (i : Nat) : inW (posM p w k (remV p w) i) := fun x hx => by
  have h := (sortS_perm _).mem_iff.1 hx
  refine posS_in hp hw hk x ?_
  obtain ⟨l, hl, rfl⟩ := List.mem_map.1 h
  exact List.mem_map.2 ⟨l, List.mem_of_mem_take hl, rfl⟩
theorem f27 (p : Pl) (w : List Sp) (k : Int) (a a2 : Option Addr) (c c2 : Nat) (hl : p.log.length ≤ 9223372036854775807) (hw : w.length ≤ 9223372036854775807) (hf : fewP p) (hcap : p.log.length ≤ c) (hcap2 : w.length ≤ c2) (h : View) (O : Hp) (hr : Rd h O a (p.log.flatMap shV)) (hr2 : Rd h O a2 (w.flatMap spV)) :
    GSpec Tryd.prog 27 [.agg ⟨plV p a c⟩, .slice a2 w.length c2, .int .i64 k] h O (New O (PosR p w k)) := by
  have e67 := fun O hr hr2 => f67 p w k a a2 c c2 hl hw hf hcap hcap2 h O hr hr2
  show GSpec Tryd.prog 27 [.agg ⟨[.int .i64 p.no, .int .i64 p.cell, .int .i64 p.noise, .int .i64 p.slab, .int .i64 p.jump, .int .i64 p.faults, .slice a p.log.length c]⟩, _, _] h O _
  by_cases he : entE p w k = 0
  · obtain ⟨ht, hk0, hkn, hlen⟩ := ent_ok he
    obtain ⟨hp, hwo⟩ := tell_ok ht
    have hpl := hp.1.2.2.2.2.2.2
    obtain ⟨n, hn⟩ : ∃ n : Nat, k = (n : Nat) := ⟨k.toNat, by omega⟩
    have hL : entL p w k = remV p w := if_pos he
    have hP : posL p w k = unitedV (posS p w k (remV p w)) := if_pos he
    have hEnt : EntR p w k = fun v H => ∃ x, v = .tuple ⟨[x, .int .i64 0]⟩ ∧ LLR (remV p w) x H := by unfold EntR; rw [he, hL]
    rw [hEnt] at e67
    have hin := posM_in hp hwo (k := k) ⟨hk0, hkn⟩
    have e64 := fun i hi a3 c3 O hr hr2 hr3 => f64 p w ((remV p w).getD i []) a a2 a3 c c2 c3 hp hwo (remV_at hp hi).1.1 (fun j hj => ((remV_at hp hi).1.2.1 j hj).1) h O hr hr2 hr3
    refine GSpec.enter (fn := Tryd.f27) Tryd.func27 rfl (by kernel_rfl) ?_
    repeat' (conv => whnf
             first
             | (((with_reducible refine CallSt.new (f := 67) (R := (fun v H => ∃ x, v = .tuple ⟨[x, .int .i64 0]⟩ ∧ LLR (remV p w) x H)) ?_ ?_); (· exact e67 _ (Rd.cons hr) (Rd.cons hr2)); rintro _ H1 ⟨_, rfl, la, lc, lvs, rfl, lr, lt, ll⟩))
             | (with_reducible refine NextSt.mk ?_)
             | (with_reducible refine OnBB.ff ?_)
             | ((with_reducible apply Cmp.no); · first | omega | (with_reducible assumption))
             | ((with_reducible apply LoadSt.boxAgg); · (repeat (first | exact List.Mem.head _ | with_reducible apply List.mem_append_right | with_reducible apply List.mem_cons_of_mem)))
             | ((with_reducible refine AllocSt.mk ?_); intro _b _hb _hbO))
    have hvl := lt.1
    obtain ⟨bx, hbx⟩ : ∃ x, x = _b := ⟨_, rfl⟩
    subst hbx
    refine LoopSt.fix [10, 11, 12, 13, 14, 15, 29, 30, 31, 32, 33, 34, 35, 36, 37, 38, 39, 40, 41, 42, 43, 44, 45, 46, 47, 48, 49, 50, 51, 52, 53, 54, 55, 56, 57, 58, 59, 60, 61, 62, 63, 64, 65, 66, 67, 68, 69, 70, 71, 72, 73, 74, 75, 76, 77, 78, 79, 80, 81, 82, 83, 84, 85, 86, 87, 88, 89] (fun ((i, C) : Nat × Buf) => [(10, .slice C.a (posM p w k (remV p w) i).length C.cap), (11, iN i)]) (fun (i, C) => C.hp 42 ((posM p w k (remV p w) i).flatMap spV) ++ (H1 ++ ((bx, .cells ⟨[.int .i64 p.no, .int .i64 p.cell, .int .i64 p.noise, .int .i64 p.slab, .int .i64 p.jump, .int .i64 p.faults, .slice a p.log.length c]⟩ 24 (0, 0)) :: O))) (fun (i, C) => i ≤ (remV p w).length ∧ C.ok 2 ((posM p w k (remV p w) i).flatMap spV) (posM p w k (remV p w) i).length) (fun (i, C) => (remV p w).length - i) ((0, Buf.nil)) _ (Wk.refl _ _) (rfl) ?_ ?_ ?_
    · repeat' (first | exact True.intro | refine And.intro ?_ ?_ | rfl | exact congrArg (Value.int _) (by omega) | exact congrArg (fun n => Value.slice _ n _) (by (try dsimp only); omega))
    · exact ⟨Nat.zero_le _, Buf.nil_ok 2⟩
    · rintro ⟨i, C⟩ d ⟨hi, hC⟩
      dsimp only at hi hC ⊢
      by_cases hil : i < (remV p w).length
      · obtain ⟨a3, c3, hvi, hri⟩ := gS_at lt hil
        obtain ⟨hco, hal⟩ := remV_at hp hil
        have hst := posM_step (p := p) (w := w) (k := k) hil
        have e64i := e64 i hil a3 c3
        have hends : endsO p w ((remV p w).getD i []) = endsV p w ((remV p w).getD i []) := if_pos hal
        have hEn : EndsR p w ((remV p w).getD i []) = fun v H => ∃ a c, v = .tuple ⟨[.slice a (endsV p w ((remV p w).getD i [])).length c, .bool true]⟩ ∧ RdH H a ((endsV p w ((remV p w).getD i [])).flatMap spV) ∧ (endsV p w ((remV p w).getD i [])).length ≤ c := by
          unfold EndsR; rw [hends, decide_eq_true hal]
        rw [hEn] at e64i
        have hel := endsV_len p w ((remV p w).getD i [])
        have hcl := hco.1
        have heg : (endsV p w ((remV p w).getD i [])).getD n default = endI p w ((remV p w).getD i []) k.toNat := by rw [hn, Int.toNat_natCast]; exact endsV_get (by omega)
        have hpn := posM_len (p := p) (w := w) (k := k) hi
        have hpn1 := posM_len (p := p) (w := w) (k := k) (show i + 1 ≤ _ from hil)
        have hsM : srt (posM p w k (remV p w) i) := sortS_srt _
        have hiM := hin i
        have hiM1 := hin (i + 1)
        clear e64 e67 hEnt hEn hends
        generalize hM : posM p w k (remV p w) i = M at *
        generalize hM1 : posM p w k (remV p w) (i + 1) = M1 at *
        generalize endI p w ((remV p w).getD i []) k.toNat = y at hst heg
        subst hn
        repeat' (conv => whnf
                 first
                 | (((with_reducible apply LoadSt.rdm (g := gS)); (· (repeat (first | with_reducible assumption | (with_reducible apply Buf.rd; with_reducible assumption) | (with_reducible apply Rd.appL; with_reducible assumption) | (with_reducible apply Rd.appL; with_reducible apply Buf.rd; with_reducible assumption) | (with_reducible apply Rd.ofH; with_reducible assumption) | (with_reducible apply Rd.ofH1; with_reducible assumption) | with_reducible apply Rd.cons | with_reducible apply Rd.appR))); (· omega)); rw [hvi]; unfold gS)
                 | (((with_reducible refine CallG.new (f := 64) (R := (fun v H => ∃ a c, v = .tuple ⟨[.slice a (endsV p w ((remV p w).getD i [])).length c, .bool true]⟩ ∧ RdH H a ((endsV p w ((remV p w).getD i [])).flatMap spV) ∧ (endsV p w ((remV p w).getD i [])).length ≤ c)) ?_ ?_); (· exact e64i _ (by (repeat (first | with_reducible assumption | (with_reducible apply Buf.rd; with_reducible assumption) | (with_reducible apply Rd.appL; with_reducible assumption) | (with_reducible apply Rd.appL; with_reducible apply Buf.rd; with_reducible assumption) | (with_reducible apply Rd.ofH; with_reducible assumption) | (with_reducible apply Rd.ofH1; with_reducible assumption) | with_reducible apply Rd.cons | with_reducible apply Rd.appR))) (by (repeat (first | with_reducible assumption | (with_reducible apply Buf.rd; with_reducible assumption) | (with_reducible apply Rd.appL; with_reducible assumption) | (with_reducible apply Rd.appL; with_reducible apply Buf.rd; with_reducible assumption) | (with_reducible apply Rd.ofH; with_reducible assumption) | (with_reducible apply Rd.ofH1; with_reducible assumption) | with_reducible apply Rd.cons | with_reducible apply Rd.appR))) (by (repeat (first | with_reducible assumption | (with_reducible apply Buf.rd; with_reducible assumption) | (with_reducible apply Rd.appL; with_reducible assumption) | (with_reducible apply Rd.appL; with_reducible apply Buf.rd; with_reducible assumption) | (with_reducible apply Rd.ofH; with_reducible assumption) | (with_reducible apply Rd.ofH1; with_reducible assumption) | with_reducible apply Rd.cons | with_reducible apply Rd.appR)))); rintro _ H2 ⟨ea, ec, rfl, er, el⟩))
                 | (((apply AppSt.litm (g := spV) (x := (endsV p w ((remV p w).getD i [])).getD n default) (s := 2) (z := .agg ⟨[.int .i64 0, .int .i64 0]⟩)); (· (repeat (first | with_reducible exact Loc.hd | with_reducible exact Loc.last | with_reducible exact Loc.one | with_reducible apply Loc.tl | with_reducible apply Loc.skip))); (· exact hC); (· (repeat (first | exact List.Mem.head _ | with_reducible apply List.mem_append_right | with_reducible apply List.mem_cons_of_mem))); (· rfl); (· rfl); (· rfl); (· rfl); (· rfl); (· rfl); (· rfl); (· (show _ * 16 ≤ _; omega)); (· omega); intro C1 hC1); rw [heg, ← wayS_start] at hC1 ⊢)
                 | ((with_reducible refine DrawSt.walk [0, 1, 2, 3, 4, 5, 6, 7, 8, 9, 10, 11] mixed ?_ ?_); · decide +kernel)
                 | ((with_reducible apply LoadSt.rdg (g := spV) (s := 2)); (· rfl); (· (repeat (first | with_reducible assumption | (with_reducible apply Rd.any; with_reducible assumption) | (with_reducible apply Buf.rd; with_reducible assumption) | (with_reducible apply Rd.appL; with_reducible assumption) | (with_reducible apply Rd.appL; with_reducible apply Buf.rd; with_reducible assumption) | (with_reducible apply Rd.ofH; with_reducible assumption) | (with_reducible apply Rd.ofH1; with_reducible assumption) | with_reducible apply Rd.cons | with_reducible apply Rd.appR))); (· exact fun _ => rfl); (· decide); · (first | omega | (simp only [List.length_map, List.length_append, List.length_cons, List.length_nil, List.length_take, List.length_drop, List.length_replicate, List.length_set] at *; omega)))
                 | ((with_reducible apply IdxSl.rdg (g := spV) (s := 2)); (· with_reducible assumption); (· exact fun _ => rfl); (· decide); (· rfl); (· first | with_reducible rfl | exact natL _); (· (first | omega | (simp only [List.length_map, List.length_append, List.length_cons, List.length_nil, List.length_take, List.length_drop, List.length_replicate, List.length_set] at *; omega))); · (first | omega | (simp only [List.length_map, List.length_append, List.length_cons, List.length_nil, List.length_take, List.length_drop, List.length_replicate, List.length_set] at *; omega)))
                 | (with_reducible refine NextSt.mk ?_)
                 | (with_reducible refine OnBB.tt ?_)
                 | ((with_reducible apply NW.subN); (· first | with_reducible rfl | exact natL _); (· first | with_reducible rfl | exact natL _); (· omega))
                 | ((with_reducible apply Cmp.yes); · first | omega | (with_reducible assumption) | (with_reducible rfl))
                 | ((with_reducible apply LoadSt.boxAgg); · (repeat (first | exact List.Mem.head _ | with_reducible apply List.mem_append_right | with_reducible apply List.mem_cons_of_mem)))
                 | ((with_reducible refine AllocSt.mk ?_); intro _b _hb _hbO)
                 | ((with_reducible apply IdxSl.rd1); (· with_reducible assumption); (· rfl); (· first | with_reducible rfl | exact natL _); (· (first | omega | (simp only [List.length_map, List.length_append, List.length_cons, List.length_nil, List.length_take, List.length_drop, List.length_replicate, List.length_set] at *; omega))); · (first | omega | (simp only [List.length_map, List.length_append, List.length_cons, List.length_nil, List.length_take, List.length_drop, List.length_replicate, List.length_set] at *; omega))))
        have hlast : ∀ j, j ≤ M.length → (∀ t, j ≤ t → t < M.length → y.lo < (M.getD t default).lo) → (0 < j → (M.getD (j - 1) default).lo ≤ y.lo) → wayS M y j = M1 := fun j h1 h2 h3 => (insS_way hsM h1 h2 h3).symm.trans hst.symm
        clear hst
        have hm1 : M1.length = M.length + 1 := by omega
        refine LoopSt.fix [14, 15, 55, 56, 57, 58, 59, 60, 61, 62, 63, 64, 65, 66, 67, 68, 69, 70, 71, 72, 73, 74, 75, 76, 77, 78, 79, 80, 81, 82, 83, 84, 85, 86, 87, 88, 89] (fun (j : Nat) => [(14, iN j)]) (fun j => C1.hp 42 ((wayS M y j).flatMap spV) ++ (H1 ++ ((bx, .cells ⟨[.int .i64 p.no, .int .i64 p.cell, .int .i64 p.noise, .int .i64 p.slab, .int .i64 p.jump, .int .i64 p.faults, .slice a p.log.length c]⟩ 24 (0, 0)) :: O))) (fun j => j ≤ M.length ∧ ∀ t, j ≤ t → t < M.length → y.lo < (M.getD t default).lo) (fun j => j) (M.length) _ (Wk.drop (by (try dsimp only); (try simp only [List.cons_append, List.nil_append]); (repeat (first | with_reducible exact List.Sublist.refl _ | with_reducible exact List.nil_sublist _ | with_reducible apply List.Sublist.cons_cons | with_reducible apply sub_app | apply List.Sublist.cons_cons | apply sub_app | with_reducible apply List.Sublist.cons | with_reducible apply sub_skip)))) (rfl) ?_ ?_ ?_
        · repeat' (first | exact True.intro | refine And.intro ?_ ?_ | rfl | exact congrArg (Value.int _) (by omega) | exact congrArg (fun n => Value.slice _ n _) (by (try dsimp only); omega))
        · exact ⟨Nat.le_refl _, fun t h1 h2 => by omega⟩
        · rintro j d ⟨hj, hlo⟩
          have hlj := wayS_len (M := M) (x := y) (k := j)
          have hCj : C1.ok 2 ((wayS M y j).flatMap spV) (M.length + 1) := ⟨by rw [flat_length (g := spV) (s := 2) (fun _ => rfl), hlj], hC1.2⟩
          have hla := hlast j hj hlo
          by_cases hj0 : j = 0
          · have hw1 := hla fun e => by omega
            rw [hw1] at hCj ⊢
            rw [← hm1] at hCj
            subst hM1
            repeat' (conv => whnf
                     first
                     | ((with_reducible refine DrawSt.walk [0, 1, 2, 3, 4, 5, 6, 7, 8, 9, 10, 11, 12, 13, 14, 15] mixed ?_ ?_); · decide +kernel)
                     | (with_reducible refine NextSt.mk ?_)
                     | (with_reducible refine OnBB.ff ?_)
                     | ((with_reducible apply NW.addN); (· first | with_reducible rfl | exact natL _); (· first | with_reducible rfl | exact natL _); (· omega))
                     | ((with_reducible apply Cmp.no); · first | omega | (with_reducible assumption)))
            refine RoundFix.mk ((i + 1, C1)) ?_ ?_ _ rfl (Wk.drop (by (try dsimp only); (try simp only [List.cons_append, List.nil_append]); (repeat (first | with_reducible exact List.Sublist.refl _ | with_reducible exact List.nil_sublist _ | with_reducible apply List.Sublist.cons_cons | with_reducible apply sub_app | apply List.Sublist.cons_cons | apply sub_app | with_reducible apply List.Sublist.cons | with_reducible apply sub_skip)))) ?_
            · dsimp only; omega
            · repeat' (first | exact True.intro | refine And.intro ?_ ?_ | exact congrArg (fun n => Value.slice C1.a n C1.cap) hm1.symm | rfl | exact congrArg (Value.int _) (by omega) | exact congrArg (fun n => Value.slice _ n _) (by (try dsimp only); omega))
            · exact ⟨hil, hCj⟩
          · have hat : (wayS M y j).getD j default = y := wayS_at hj
            have hpr : (wayS M y j).getD (j - 1) default = M.getD (j - 1) default := by
              have := wayS_prev (M := M) (x := y) (k := j - 1) (by omega)
              rwa [Nat.sub_add_cancel (by omega)] at this
            have hsw : ((wayS M y j).set j (M.getD (j - 1) default)).set (j - 1) y = wayS M y (j - 1) := by
              have := wayS_swap (M := M) (x := y) (k := j - 1) (by omega)
              rwa [Nat.sub_add_cancel (by omega)] at this
            by_cases hc : y.lo < (M.getD (j - 1) default).lo
            · have hc2 : ((wayS M y j).getD j default).lo < ((wayS M y j).getD (j - 1) default).lo := by rw [hat, hpr]; exact hc
              have hl2 : ((wayS M y j).set j (M.getD (j - 1) default)).length = M.length + 1 := by rw [List.length_set, hlj]
              have hC2 : C1.ok 2 (((wayS M y j).set j (M.getD (j - 1) default)).flatMap spV) (M.length + 1) := ⟨by rw [flat_length (g := spV) (s := 2) (fun _ => rfl), hl2], hC1.2⟩
              repeat' (conv => whnf
                       first
                       | ((apply StoreSt.bufe (g := spV) (i := j) (x := (wayS M y j).getD (j - 1) default)); (· (repeat (first | with_reducible exact Loc.hd | with_reducible exact Loc.last | with_reducible exact Loc.one | with_reducible apply Loc.tl | with_reducible apply Loc.skip))); (· exact hCj); (· exact fun _ => rfl); (· rfl); (· rfl); (· omega); (· decide); (· rfl); rw [hpr])
                       | ((apply StoreSt.bufe (g := spV) (i := j - 1) (x := (wayS M y j).getD j default)); (· (repeat (first | with_reducible exact Loc.hd | with_reducible exact Loc.last | with_reducible exact Loc.one | with_reducible apply Loc.tl | with_reducible apply Loc.skip))); (· exact hC2); (· exact fun _ => rfl); (· rfl); (· rfl); (· omega); (· decide); (· rfl); rw [hat, hsw])
                       | ((with_reducible refine DrawSt.walk [0, 1, 2, 3, 4, 5, 6, 7, 8, 9, 10, 11, 12, 13, 14, 15] mixed ?_ ?_); · decide +kernel)
                       | ((with_reducible apply LoadSt.rdg (g := spV) (s := 2)); (· rfl); (· (repeat (first | with_reducible assumption | (with_reducible apply Rd.any; with_reducible assumption) | (with_reducible apply Buf.rd; with_reducible assumption) | (with_reducible apply Rd.appL; with_reducible assumption) | (with_reducible apply Rd.appL; with_reducible apply Buf.rd; with_reducible assumption) | (with_reducible apply Rd.ofH; with_reducible assumption) | (with_reducible apply Rd.ofH1; with_reducible assumption) | with_reducible apply Rd.cons | with_reducible apply Rd.appR))); (· exact fun _ => rfl); (· decide); · (first | omega | (simp only [List.length_map, List.length_append, List.length_cons, List.length_nil, List.length_take, List.length_drop, List.length_replicate, List.length_set] at *; omega)))
                       | ((with_reducible apply LoadSt.rdf (g := spV) (s := 2)); (· (repeat (first | with_reducible assumption | (with_reducible apply Rd.any; with_reducible assumption) | (with_reducible apply Buf.rd; with_reducible assumption) | (with_reducible apply Rd.appL; with_reducible assumption) | (with_reducible apply Rd.appL; with_reducible apply Buf.rd; with_reducible assumption) | (with_reducible apply Rd.ofH; with_reducible assumption) | (with_reducible apply Rd.ofH1; with_reducible assumption) | with_reducible apply Rd.cons | with_reducible apply Rd.appR))); (· exact fun _ => rfl); (· (first | omega | (simp only [List.length_map, List.length_append, List.length_cons, List.length_nil, List.length_take, List.length_drop, List.length_replicate, List.length_set] at *; omega))); (· decide))
                       | ((with_reducible apply IdxSl.bufm (s := 2)); (· with_reducible assumption); (· rfl); (· rfl); (· first | with_reducible rfl | exact natL _); · (first | omega | (simp only [List.length_map, List.length_append, List.length_cons, List.length_nil, List.length_take, List.length_drop, List.length_replicate, List.length_set] at *; omega)))
                       | (with_reducible refine NextSt.mk ?_)
                       | (with_reducible refine OnBB.tt ?_)
                       | ((with_reducible apply NW.subN); (· first | with_reducible rfl | exact natL _); (· first | with_reducible rfl | exact natL _); (· omega))
                       | ((with_reducible apply Cmp.yes); · first | omega | (with_reducible assumption) | (with_reducible rfl))
                       | ((with_reducible apply LoadSt.boxAgg); · (repeat (first | exact List.Mem.head _ | with_reducible apply List.mem_append_right | with_reducible apply List.mem_cons_of_mem)))
                       | ((with_reducible refine AllocSt.mk ?_); intro _b _hb _hbO)
                       | ((with_reducible apply StoreSt.box); (· (repeat (first | exact Upd.hd | apply Upd.tl | apply Upd.app))); (· rfl); (· rfl); (· rfl)))
              refine RoundFix.mk (j - 1) ?_ ?_ _ rfl (Wk.drop (by (try dsimp only); (try simp only [List.cons_append, List.nil_append]); (repeat (first | with_reducible exact List.Sublist.refl _ | with_reducible exact List.nil_sublist _ | with_reducible apply List.Sublist.cons_cons | with_reducible apply sub_app | apply List.Sublist.cons_cons | apply sub_app | with_reducible apply List.Sublist.cons | with_reducible apply sub_skip)))) ?_
              · omega
              · repeat' (first | exact True.intro | refine And.intro ?_ ?_ | rfl | exact congrArg (Value.int _) (by omega) | exact congrArg (fun n => Value.slice _ n _) (by (try dsimp only); omega))
              · refine ⟨by omega, fun t h1 h2 => ?_⟩
                by_cases e : t = j - 1
                · rw [e]; exact hc
                · exact hlo t (by omega) h2
            · have hc2 : ¬ ((wayS M y j).getD j default).lo < ((wayS M y j).getD (j - 1) default).lo := by rw [hat, hpr]; exact hc
              have hw1 := hla fun _ => by omega
              clear hlast hla hsw
              rw [hw1] at hCj hlj hat hpr hc2 ⊢
              repeat' (conv => whnf
                       first
                       | ((with_reducible refine DrawSt.walk [0, 1, 2, 3, 4, 5, 6, 7, 8, 9, 10, 11, 12, 13, 14, 15] mixed ?_ ?_); · decide +kernel)
                       | ((with_reducible apply LoadSt.rdf (g := spV) (s := 2)); (· (repeat (first | with_reducible assumption | (with_reducible apply Rd.any; with_reducible assumption) | (with_reducible apply Buf.rd; with_reducible assumption) | (with_reducible apply Rd.appL; with_reducible assumption) | (with_reducible apply Rd.appL; with_reducible apply Buf.rd; with_reducible assumption) | (with_reducible apply Rd.ofH; with_reducible assumption) | (with_reducible apply Rd.ofH1; with_reducible assumption) | with_reducible apply Rd.cons | with_reducible apply Rd.appR))); (· exact fun _ => rfl); (· (first | omega | (simp only [List.length_map, List.length_append, List.length_cons, List.length_nil, List.length_take, List.length_drop, List.length_replicate, List.length_set] at *; omega))); (· decide))
                       | ((with_reducible apply IdxSl.bufm (s := 2)); (· with_reducible assumption); (· rfl); (· rfl); (· first | with_reducible rfl | exact natL _); · (first | omega | (simp only [List.length_map, List.length_append, List.length_cons, List.length_nil, List.length_take, List.length_drop, List.length_replicate, List.length_set] at *; omega)))
                       | (with_reducible refine NextSt.mk ?_)
                       | (with_reducible refine OnBB.tt ?_)
                       | (with_reducible refine OnBB.ff ?_)
                       | ((with_reducible apply NW.addN); (· first | with_reducible rfl | exact natL _); (· first | with_reducible rfl | exact natL _); (· omega))
                       | ((with_reducible apply NW.subN); (· first | with_reducible rfl | exact natL _); (· first | with_reducible rfl | exact natL _); (· omega))
                       | ((with_reducible apply Cmp.yes); · first | omega | (with_reducible assumption) | (with_reducible rfl))
                       | ((with_reducible apply Cmp.no); · first | omega | (with_reducible assumption)))
              rw [← hm1] at hCj
              subst hM1
              refine RoundFix.mk ((i + 1, C1)) ?_ ?_ _ rfl (Wk.drop (by (try dsimp only); (try simp only [List.cons_append, List.nil_append]); (repeat (first | with_reducible exact List.Sublist.refl _ | with_reducible exact List.nil_sublist _ | with_reducible apply List.Sublist.cons_cons | with_reducible apply sub_app | apply List.Sublist.cons_cons | apply sub_app | with_reducible apply List.Sublist.cons | with_reducible apply sub_skip)))) ?_
              · dsimp only; omega
              · repeat' (first | exact True.intro | refine And.intro ?_ ?_ | exact congrArg (fun n => Value.slice C1.a n C1.cap) hm1.symm | rfl | exact congrArg (Value.int _) (by omega) | exact congrArg (fun n => Value.slice _ n _) (by (try dsimp only); omega))
              · exact ⟨hil, hCj⟩
      · have : i = (remV p w).length := by omega
        subst this
        have hS : joinS (posM p w k (remV p w) (remV p w).length) = unitedV (posS p w k (remV p w)) := by unfold posM unitedV; rw [List.take_length]
        rw [← hS] at hP
        have hyx := hin (remV p w).length
        have hyl := posM_len (p := p) (w := w) (k := k) (Nat.le_refl (remV p w).length)
        generalize posM p w k (remV p w) (remV p w).length = ys at *
        have hyr : Rd h (C.hp 42 (ys.flatMap spV)) C.a (ys.flatMap spV) := Buf.rd hC
        generalize hbG : C.hp 42 (ys.flatMap spV) = G at hyr ⊢
        repeat' (conv => whnf
                 first
                 | (with_reducible refine NextSt.mk ?_)
                 | (with_reducible refine OnBB.ff ?_)
                 | ((with_reducible apply Cmp.no); · first | omega | (with_reducible assumption)))
        refine LoopSt.fix [16, 17, 18, 90, 91, 92, 93, 94, 95, 96, 97, 98, 99, 100, 101, 102, 103, 104, 105, 106, 107, 108, 109, 110, 111, 112, 113, 114, 115, 116, 117, 118, 119, 120, 121, 122, 123, 124, 125, 126, 127, 128, 129, 130, 131, 132, 133, 134, 135, 136, 137, 138] (fun ((j, D) : Nat × Buf) => [(16, .slice D.a (joinS (ys.take j)).length D.cap), (17, iN j)]) (fun (j, D) => D.hp 42 ((joinS (ys.take j)).flatMap spV) ++ (G ++ (H1 ++ ((bx, .cells ⟨[.int .i64 p.no, .int .i64 p.cell, .int .i64 p.noise, .int .i64 p.slab, .int .i64 p.jump, .int .i64 p.faults, .slice a p.log.length c]⟩ 24 (0, 0)) :: O)))) (fun (j, D) => j ≤ ys.length ∧ D.ok 2 ((joinS (ys.take j)).flatMap spV) (joinS (ys.take j)).length) (fun (j, D) => ys.length - j) ((0, Buf.nil)) _ (Wk.refl _ _) (rfl) ?_ ?_ ?_
        · repeat' (first | exact True.intro | refine And.intro ?_ ?_ | rfl | exact congrArg (Value.int _) (by omega) | exact congrArg (fun n => Value.slice _ n _) (by (try dsimp only); omega))
        · exact ⟨Nat.zero_le _, Buf.nil_ok 2⟩
        · rintro ⟨j, D⟩ d ⟨hj, hD⟩
          dsimp only at hj hD ⊢
          by_cases hin : j < ys.length
          · have hst := joinS_step hin
            have hxb := hyx.get hin
            have hoi := joinS_in (hyx.take j)
            have hoi1 := joinS_in (hyx.take (j + 1))
            generalize ho : joinS (ys.take j) = o at *
            generalize ho1 : joinS (ys.take (j + 1)) = o1 at *
            by_cases hjj : 0 < o.length ∧ (ys.getD j default).lo ≤ (lastS o).hi + 1
            · have hlast := hoi.1.get (i := o.length - 1) (by omega)
              have hset : o1 = o.set (o.length - 1) ⟨(lastS o).lo, max (lastS o).hi (ys.getD j default).hi⟩ := by rw [hst]; exact if_pos hjj
              have hl1 : o1.length = o.length := by rw [hset, List.length_set]
              obtain ⟨hj0, hj1⟩ := hjj
              unfold lastS at hj1 hset
              repeat' (conv => whnf
                       first
                       | ((apply StoreSt.buff (g := spV) (s := 2) (i := o.length - 1) (j := 1) (x := ⟨(o.getD (o.length - 1) default).lo, max (o.getD (o.length - 1) default).hi (ys.getD j default).hi⟩)); (· (repeat (first | with_reducible exact Loc.hd | with_reducible exact Loc.last | with_reducible exact Loc.one | with_reducible apply Loc.tl | with_reducible apply Loc.skip))); (· exact hD); (· exact fun _ => rfl); (· rfl); (· rfl); (· omega); (· decide); (· rfl); (· rfl); rw [← hset])
                       | ((with_reducible refine DrawSt.walk [0, 1, 2, 3, 4, 5, 6, 7, 8, 9, 10, 11, 12, 13, 14, 15, 16] mixed ?_ ?_); · decide +kernel)
                       | ((with_reducible refine DrawSt.walk [0, 1, 2, 3, 4, 5, 6, 7, 8, 9, 10, 11, 12, 13, 14, 15, 16, 17] mixed ?_ ?_); · decide +kernel)
                       | ((with_reducible apply LoadSt.rdf (g := spV) (s := 2)); (· (repeat (first | with_reducible assumption | (with_reducible apply Rd.any; with_reducible assumption) | (with_reducible apply Buf.rd; with_reducible assumption) | (with_reducible apply Rd.appL; with_reducible assumption) | (with_reducible apply Rd.appL; with_reducible apply Buf.rd; with_reducible assumption) | (with_reducible apply Rd.ofH; with_reducible assumption) | (with_reducible apply Rd.ofH1; with_reducible assumption) | with_reducible apply Rd.cons | with_reducible apply Rd.appR))); (· exact fun _ => rfl); (· (first | omega | (simp only [List.length_map, List.length_append, List.length_cons, List.length_nil, List.length_take, List.length_drop, List.length_replicate, List.length_set] at *; omega))); (· decide))
                       | ((with_reducible apply IdxSl.bufm (s := 2)); (· with_reducible assumption); (· rfl); (· rfl); (· first | with_reducible rfl | exact natL _); · (first | omega | (simp only [List.length_map, List.length_append, List.length_cons, List.length_nil, List.length_take, List.length_drop, List.length_replicate, List.length_set] at *; omega)))
                       | (with_reducible refine NextSt.mk ?_)
                       | (with_reducible refine OnBB.tt ?_)
                       | ((with_reducible apply NW.addN); (· first | with_reducible rfl | exact natL _); (· first | with_reducible rfl | exact natL _); (· omega))
                       | ((with_reducible apply NW.subN); (· first | with_reducible rfl | exact natL _); (· first | with_reducible rfl | exact natL _); (· omega))
                       | ((with_reducible apply NW.i64); · omega)
                       | ((with_reducible apply Cmp.yes); · first | omega | (with_reducible assumption) | (with_reducible rfl))
                       | (with_reducible apply MinMax.maxI))
              have hD1 : D.ok 2 (o1.flatMap spV) o1.length := ⟨flat_length (g := spV) (fun _ => rfl) o1, by rw [hl1]; exact hD.2⟩
              subst ho1
              refine RoundFix.mk ((j + 1, D)) ?_ ?_ _ rfl (Wk.drop (by (try dsimp only); (try simp only [List.cons_append, List.nil_append]); (repeat (first | with_reducible exact List.Sublist.refl _ | with_reducible exact List.nil_sublist _ | with_reducible apply List.Sublist.cons_cons | with_reducible apply sub_app | apply List.Sublist.cons_cons | apply sub_app | with_reducible apply List.Sublist.cons | with_reducible apply sub_skip)))) ?_
              · dsimp only; omega
              · repeat' (first | exact True.intro | refine And.intro ?_ ?_ | exact congrArg (fun n => Value.slice D.a n D.cap) hl1.symm | rfl | exact congrArg (Value.int _) (by omega) | exact congrArg (fun n => Value.slice _ n _) (by (try dsimp only); omega))
              · exact ⟨hin, hD1⟩
            · have hset : o1 = o ++ [ys.getD j default] := by rw [hst]; exact if_neg hjj
              have hl1 : o1.length = o.length + 1 := by rw [hset, List.length_append]; rfl
              by_cases hj0 : 0 < o.length
              · have hlast := hoi.1.get (i := o.length - 1) (by omega)
                have hj1 : ¬ (ys.getD j default).lo ≤ (lastS o).hi + 1 := fun e => hjj ⟨hj0, e⟩
                unfold lastS at hj1
                repeat' (conv => whnf
                         first
                         | (((apply AppSt.litm (g := spV) (x := ys.getD j default) (s := 2) (z := .agg ⟨[.int .i64 0, .int .i64 0]⟩)); (· (repeat (first | with_reducible exact Loc.hd | with_reducible exact Loc.last | with_reducible exact Loc.one | with_reducible apply Loc.tl | with_reducible apply Loc.skip))); (· exact hD); (· (repeat (first | exact List.Mem.head _ | with_reducible apply List.mem_append_right | with_reducible apply List.mem_cons_of_mem))); (· rfl); (· rfl); (· rfl); (· rfl); (· rfl); (· rfl); (· rfl); (· (show _ * 16 ≤ _; omega)); (· omega); intro D1 hD1); rw [← hset] at hD1 ⊢)
                         | ((with_reducible refine DrawSt.walk [0, 1, 2, 3, 4, 5, 6, 7, 8, 9, 10, 11, 12, 13, 14, 15, 16] mixed ?_ ?_); · decide +kernel)
                         | ((with_reducible apply LoadSt.rdg (g := spV) (s := 2)); (· rfl); (· (repeat (first | with_reducible assumption | (with_reducible apply Rd.any; with_reducible assumption) | (with_reducible apply Buf.rd; with_reducible assumption) | (with_reducible apply Rd.appL; with_reducible assumption) | (with_reducible apply Rd.appL; with_reducible apply Buf.rd; with_reducible assumption) | (with_reducible apply Rd.ofH; with_reducible assumption) | (with_reducible apply Rd.ofH1; with_reducible assumption) | with_reducible apply Rd.cons | with_reducible apply Rd.appR))); (· exact fun _ => rfl); (· decide); · (first | omega | (simp only [List.length_map, List.length_append, List.length_cons, List.length_nil, List.length_take, List.length_drop, List.length_replicate, List.length_set] at *; omega)))
                         | ((with_reducible apply LoadSt.rdf (g := spV) (s := 2)); (· (repeat (first | with_reducible assumption | (with_reducible apply Rd.any; with_reducible assumption) | (with_reducible apply Buf.rd; with_reducible assumption) | (with_reducible apply Rd.appL; with_reducible assumption) | (with_reducible apply Rd.appL; with_reducible apply Buf.rd; with_reducible assumption) | (with_reducible apply Rd.ofH; with_reducible assumption) | (with_reducible apply Rd.ofH1; with_reducible assumption) | with_reducible apply Rd.cons | with_reducible apply Rd.appR))); (· exact fun _ => rfl); (· (first | omega | (simp only [List.length_map, List.length_append, List.length_cons, List.length_nil, List.length_take, List.length_drop, List.length_replicate, List.length_set] at *; omega))); (· decide))
                         | ((with_reducible apply IdxSl.bufm (s := 2)); (· with_reducible assumption); (· rfl); (· rfl); (· first | with_reducible rfl | exact natL _); · (first | omega | (simp only [List.length_map, List.length_append, List.length_cons, List.length_nil, List.length_take, List.length_drop, List.length_replicate, List.length_set] at *; omega)))
                         | (with_reducible refine NextSt.mk ?_)
                         | (with_reducible refine OnBB.tt ?_)
                         | (with_reducible refine OnBB.ff ?_)
                         | ((with_reducible apply NW.addN); (· first | with_reducible rfl | exact natL _); (· first | with_reducible rfl | exact natL _); (· omega))
                         | ((with_reducible apply NW.subN); (· first | with_reducible rfl | exact natL _); (· first | with_reducible rfl | exact natL _); (· omega))
                         | ((with_reducible apply NW.i64); · omega)
                         | ((with_reducible apply Cmp.yes); · first | omega | (with_reducible assumption) | (with_reducible rfl))
                         | ((with_reducible apply Cmp.no); · first | omega | (with_reducible assumption))
                         | ((with_reducible refine AllocSt.mk ?_); intro _b _hb _hbO))
                rw [← hl1] at hD1
                subst ho1
                refine RoundFix.mk ((j + 1, D1)) ?_ ?_ _ rfl (Wk.drop (by (try dsimp only); (try simp only [List.cons_append, List.nil_append]); (repeat (first | with_reducible exact List.Sublist.refl _ | with_reducible exact List.nil_sublist _ | with_reducible apply List.Sublist.cons_cons | with_reducible apply sub_app | apply List.Sublist.cons_cons | apply sub_app | with_reducible apply List.Sublist.cons | with_reducible apply sub_skip)))) ?_
                · dsimp only; omega
                · repeat' (first | exact True.intro | refine And.intro ?_ ?_ | exact congrArg (fun n => Value.slice D1.a n D1.cap) hl1.symm | rfl | exact congrArg (Value.int _) (by omega) | exact congrArg (fun n => Value.slice _ n _) (by (try dsimp only); omega))
                · exact ⟨hin, hD1⟩
              · have hz : o.length = 0 := by omega
                repeat' (conv => whnf
                         first
                         | (((apply AppSt.litm (g := spV) (x := ys.getD j default) (s := 2) (z := .agg ⟨[.int .i64 0, .int .i64 0]⟩)); (· (repeat (first | with_reducible exact Loc.hd | with_reducible exact Loc.last | with_reducible exact Loc.one | with_reducible apply Loc.tl | with_reducible apply Loc.skip))); (· exact hD); (· (repeat (first | exact List.Mem.head _ | with_reducible apply List.mem_append_right | with_reducible apply List.mem_cons_of_mem))); (· rfl); (· rfl); (· rfl); (· rfl); (· rfl); (· rfl); (· rfl); (· (show _ * 16 ≤ _; omega)); (· omega); intro D1 hD1); rw [← hset] at hD1 ⊢)
                         | ((with_reducible refine DrawSt.walk [0, 1, 2, 3, 4, 5, 6, 7, 8, 9, 10, 11, 12, 13, 14, 15, 16] mixed ?_ ?_); · decide +kernel)
                         | ((with_reducible apply LoadSt.rdg (g := spV) (s := 2)); (· rfl); (· (repeat (first | with_reducible assumption | (with_reducible apply Rd.any; with_reducible assumption) | (with_reducible apply Buf.rd; with_reducible assumption) | (with_reducible apply Rd.appL; with_reducible assumption) | (with_reducible apply Rd.appL; with_reducible apply Buf.rd; with_reducible assumption) | (with_reducible apply Rd.ofH; with_reducible assumption) | (with_reducible apply Rd.ofH1; with_reducible assumption) | with_reducible apply Rd.cons | with_reducible apply Rd.appR))); (· exact fun _ => rfl); (· decide); · (first | omega | (simp only [List.length_map, List.length_append, List.length_cons, List.length_nil, List.length_take, List.length_drop, List.length_replicate, List.length_set] at *; omega)))
                         | ((with_reducible apply IdxSl.bufm (s := 2)); (· with_reducible assumption); (· rfl); (· rfl); (· first | with_reducible rfl | exact natL _); · (first | omega | (simp only [List.length_map, List.length_append, List.length_cons, List.length_nil, List.length_take, List.length_drop, List.length_replicate, List.length_set] at *; omega)))
                         | (with_reducible refine NextSt.mk ?_)
                         | (with_reducible refine OnBB.tt ?_)
                         | (with_reducible refine OnBB.ff ?_)
                         | ((with_reducible apply NW.addN); (· first | with_reducible rfl | exact natL _); (· first | with_reducible rfl | exact natL _); (· omega))
                         | ((with_reducible apply Cmp.yes); · first | omega | (with_reducible assumption) | (with_reducible rfl))
                         | ((with_reducible apply Cmp.no); · first | omega | (with_reducible assumption))
                         | ((with_reducible refine AllocSt.mk ?_); intro _b _hb _hbO))
                rw [← hl1] at hD1
                subst ho1
                refine RoundFix.mk ((j + 1, D1)) ?_ ?_ _ rfl (Wk.drop (by (try dsimp only); (try simp only [List.cons_append, List.nil_append]); (repeat (first | with_reducible exact List.Sublist.refl _ | with_reducible exact List.nil_sublist _ | with_reducible apply List.Sublist.cons_cons | with_reducible apply sub_app | apply List.Sublist.cons_cons | apply sub_app | with_reducible apply List.Sublist.cons | with_reducible apply sub_skip)))) ?_
                · dsimp only; omega
                · repeat' (first | exact True.intro | refine And.intro ?_ ?_ | exact congrArg (fun n => Value.slice D1.a n D1.cap) hl1.symm | rfl | exact congrArg (Value.int _) (by omega) | exact congrArg (fun n => Value.slice _ n _) (by (try dsimp only); omega))
                · exact ⟨hin, hD1⟩
          · have : j = ys.length := by omega
            subst this
            rw [List.take_length] at hD ⊢
            repeat' (conv => whnf
                     first
                     | (with_reducible refine NextSt.mk ?_)
                     | (with_reducible refine OnBB.ff ?_)
                     | ((with_reducible apply Cmp.no); · first | omega | (with_reducible assumption)))
            conv => whnf
            refine FinSt.new (H := D.hp 42 ((joinS ys).flatMap spV)) (by (try dsimp only); (try simp only [List.cons_append, List.nil_append]); (repeat (first | with_reducible exact List.Sublist.refl _ | with_reducible exact List.nil_sublist _ | with_reducible apply List.Sublist.cons_cons | with_reducible apply sub_app | apply List.Sublist.cons_cons | apply sub_app | with_reducible apply List.Sublist.cons | with_reducible apply sub_skip))) ?_
            exact ⟨_, by rw [he], by rw [hP]; exact ⟨D.a, D.cap, rfl, Buf.rd hD, Buf.le hD⟩⟩
  · have hP : posL p w k = [] := if_neg he
    refine GSpec.enter (fn := Tryd.f27) Tryd.func27 rfl (by kernel_rfl) ?_
    repeat' (conv => whnf
             first
             | (((with_reducible refine CallSt.new (f := 67) (R := (EntR p w k)) ?_ ?_); (· exact e67 _ (Rd.cons hr) (Rd.cons hr2)); rintro _ H1 ⟨lx, rfl, hlx⟩))
             | (with_reducible refine NextSt.mk ?_)
             | (with_reducible refine OnBB.tt ?_)
             | ((with_reducible apply Cmp.yes); · first | omega | (with_reducible assumption) | (with_reducible rfl))
             | ((with_reducible apply LoadSt.boxAgg); · (repeat (first | exact List.Mem.head _ | with_reducible apply List.mem_append_right | with_reducible apply List.mem_cons_of_mem)))
             | ((with_reducible refine AllocSt.mk ?_); intro _b _hb _hbO))
    conv => whnf
    refine FinSt.new (H := []) (by (try dsimp only); (try simp only [List.cons_append, List.nil_append]); (repeat (first | with_reducible exact List.Sublist.refl _ | with_reducible exact List.nil_sublist _ | with_reducible apply List.Sublist.cons_cons | with_reducible apply sub_app | apply List.Sublist.cons_cons | apply sub_app | with_reducible apply List.Sublist.cons | with_reducible apply sub_skip))) ?_
    exact ⟨_, rfl, by rw [hP]; exact LsR.nil'⟩
end Go.Proofs.YtaahjlhfmkjefaaDoor
/- The reference: the hull of what is possible; the state that is sure. -/
namespace Go.Proofs.YtaahjlhfmkjefaaDoor
open Go Go.Gv
set_option maxRecDepth 100000
set_option maxHeartbeats 16000000
set_option linter.unusedSimpArgs false
set_option linter.unusedVariables false
theorem f29 (p : Pl) (w : List Sp) (k : Int) (a a2 : Option Addr) (c c2 : Nat) (hl : p.log.length ≤ 9223372036854775807) (hw : w.length ≤ 9223372036854775807) (hf : fewP p) (hcap : p.log.length ≤ c) (hcap2 : w.length ≤ c2) (h : View) (O : Hp) (hr : Rd h O a (p.log.flatMap shV)) (hr2 : Rd h O a2 (w.flatMap spV)) :
    GSpec Tryd.prog 29 [.agg ⟨plV p a c⟩, .slice a2 w.length c2, .int .i64 k] h O (Ret O (hullT p w k)) := by
  have e27 := fun O hr hr2 => f27 p w k a a2 c c2 hl hw hf hcap hcap2 h O hr hr2
  have hpi := pos_in p w k
  show GSpec Tryd.prog 29 [.agg ⟨[.int .i64 p.no, .int .i64 p.cell, .int .i64 p.noise, .int .i64 p.slab, .int .i64 p.jump, .int .i64 p.faults, .slice a p.log.length c]⟩, _, _] h O _
  by_cases he : entE p w k = 0
  · by_cases hz : (posL p w k).length = 0
    · have hE : hullE p w k = 33 := (if_neg (fun e => e he)).trans (if_pos hz)
      have hX : hullX p w k = ⟨0, 0⟩ := if_pos hz
      unfold hullT
      rw [hE, hX]
      refine GSpec.enter (fn := Tryd.f29) Tryd.func29 rfl (by kernel_rfl) ?_
      repeat' (conv => whnf
               first
               | (((with_reducible refine CallSt.new (f := 27) (R := (PosR p w k)) ?_ ?_); (· exact e27 _ (Rd.cons (Rd.cons hr)) (Rd.cons (Rd.cons hr2))); rintro _ H1 ⟨_, rfl, la, lc, rfl, lr, ll⟩))
               | (with_reducible refine NextSt.mk ?_)
               | (with_reducible refine OnBB.tt ?_)
               | (with_reducible refine OnBB.ff ?_)
               | ((with_reducible apply Cmp.yes); · first | omega | (with_reducible assumption) | (with_reducible rfl))
               | ((with_reducible apply Cmp.no); · first | omega | (with_reducible assumption))
               | ((with_reducible apply LoadSt.boxAgg); · (repeat (first | exact List.Mem.head _ | with_reducible apply List.mem_append_right | with_reducible apply List.mem_cons_of_mem)))
               | ((with_reducible refine AllocSt.mk ?_); intro _b _hb _hbO)
               | ((with_reducible apply StoreSt.box); (· (repeat (first | exact Upd.hd | apply Upd.tl | apply Upd.app))); (· rfl); (· rfl); (· rfl)))
      conv => whnf
      refine FinSt.ret (by (try dsimp only); (try simp only [List.cons_append, List.nil_append]); (repeat (first | with_reducible exact List.Sublist.refl _ | with_reducible exact List.nil_sublist _ | with_reducible apply List.Sublist.cons_cons | with_reducible apply sub_app | apply List.Sublist.cons_cons | apply sub_app | with_reducible apply List.Sublist.cons | with_reducible apply sub_skip))) ?_
      rfl
    · have hE : hullE p w k = 0 := (if_neg (fun e => e he)).trans (if_neg hz)
      have hX : hullX p w k = ⟨((posL p w k).getD 0 default).lo, ((posL p w k).getD ((posL p w k).length - 1) default).hi⟩ := if_neg hz
      unfold hullT
      rw [hE, hX]
      refine GSpec.enter (fn := Tryd.f29) Tryd.func29 rfl (by kernel_rfl) ?_
      repeat' (conv => whnf
               first
               | (((with_reducible refine CallSt.new (f := 27) (R := (PosR p w k)) ?_ ?_); (· exact e27 _ (Rd.cons (Rd.cons hr)) (Rd.cons (Rd.cons hr2))); rintro _ H1 ⟨_, rfl, la, lc, rfl, lr, ll⟩))
               | ((with_reducible refine DrawSt.walk [0, 1, 2, 3, 4, 5, 6, 7, 8, 9, 10, 11, 12, 13] mixed ?_ ?_); · decide +kernel)
               | ((with_reducible apply LoadSt.rdf (g := spV) (s := 2)); (· (repeat (first | with_reducible assumption | (with_reducible apply Rd.any; with_reducible assumption) | (with_reducible apply Buf.rd; with_reducible assumption) | (with_reducible apply Rd.appL; with_reducible assumption) | (with_reducible apply Rd.appL; with_reducible apply Buf.rd; with_reducible assumption) | (with_reducible apply Rd.ofH; with_reducible assumption) | (with_reducible apply Rd.ofH1; with_reducible assumption) | with_reducible apply Rd.cons | with_reducible apply Rd.appR))); (· exact fun _ => rfl); (· (first | omega | (simp only [List.length_map, List.length_append, List.length_cons, List.length_nil, List.length_take, List.length_drop, List.length_replicate, List.length_set] at *; omega))); (· decide))
               | ((with_reducible apply IdxSl.rdg (g := spV) (s := 2)); (· with_reducible assumption); (· exact fun _ => rfl); (· decide); (· rfl); (· first | with_reducible rfl | exact natL _); (· (first | omega | (simp only [List.length_map, List.length_append, List.length_cons, List.length_nil, List.length_take, List.length_drop, List.length_replicate, List.length_set] at *; omega))); · (first | omega | (simp only [List.length_map, List.length_append, List.length_cons, List.length_nil, List.length_take, List.length_drop, List.length_replicate, List.length_set] at *; omega)))
               | (with_reducible refine NextSt.mk ?_)
               | (with_reducible refine OnBB.ff ?_)
               | ((with_reducible apply NW.subN); (· first | with_reducible rfl | exact natL _); (· first | with_reducible rfl | exact natL _); (· omega))
               | ((with_reducible apply Cmp.no); · first | omega | (with_reducible assumption))
               | ((with_reducible apply LoadSt.boxAgg); · (repeat (first | exact List.Mem.head _ | with_reducible apply List.mem_append_right | with_reducible apply List.mem_cons_of_mem)))
               | ((with_reducible refine AllocSt.mk ?_); intro _b _hb _hbO)
               | ((with_reducible apply StoreSt.box); (· (repeat (first | exact Upd.hd | apply Upd.tl | apply Upd.app))); (· rfl); (· rfl); (· rfl)))
      conv => whnf
      refine FinSt.ret (by (try dsimp only); (try simp only [List.cons_append, List.nil_append]); (repeat (first | with_reducible exact List.Sublist.refl _ | with_reducible exact List.nil_sublist _ | with_reducible apply List.Sublist.cons_cons | with_reducible apply sub_app | apply List.Sublist.cons_cons | apply sub_app | with_reducible apply List.Sublist.cons | with_reducible apply sub_skip))) ?_
      rfl
  · have hE : hullE p w k = entE p w k := if_pos he
    have hX : hullX p w k = ⟨0, 0⟩ := if_pos (by rw [show posL p w k = [] from if_neg he]; rfl)
    unfold hullT
    rw [hE, hX]
    refine GSpec.enter (fn := Tryd.f29) Tryd.func29 rfl (by kernel_rfl) ?_
    repeat' (conv => whnf
             first
             | (((with_reducible refine CallSt.new (f := 27) (R := (PosR p w k)) ?_ ?_); (· exact e27 _ (Rd.cons (Rd.cons hr)) (Rd.cons (Rd.cons hr2))); rintro _ H1 ⟨_, rfl, la, lc, rfl, lr, ll⟩))
             | (with_reducible refine NextSt.mk ?_)
             | (with_reducible refine OnBB.tt ?_)
             | ((with_reducible apply Cmp.yes); · first | omega | (with_reducible assumption) | (with_reducible rfl))
             | ((with_reducible apply LoadSt.boxAgg); · (repeat (first | exact List.Mem.head _ | with_reducible apply List.mem_append_right | with_reducible apply List.mem_cons_of_mem)))
             | ((with_reducible refine AllocSt.mk ?_); intro _b _hb _hbO)
             | ((with_reducible apply StoreSt.box); (· (repeat (first | exact Upd.hd | apply Upd.tl | apply Upd.app))); (· rfl); (· rfl); (· rfl)))
    conv => whnf
    refine FinSt.ret (by (try dsimp only); (try simp only [List.cons_append, List.nil_append]); (repeat (first | with_reducible exact List.Sublist.refl _ | with_reducible exact List.nil_sublist _ | with_reducible apply List.Sublist.cons_cons | with_reducible apply sub_app | apply List.Sublist.cons_cons | apply sub_app | with_reducible apply List.Sublist.cons | with_reducible apply sub_skip))) ?_
    rfl
theorem f31 (p : Pl) (w : List Sp) (k : Int) (a a2 : Option Addr) (c c2 : Nat) (hl : p.log.length ≤ 9223372036854775807) (hw : w.length ≤ 9223372036854775807) (hf : fewP p) (hcap : p.log.length ≤ c) (hcap2 : w.length ≤ c2) (h : View) (O : Hp) (hr : Rd h O a (p.log.flatMap shV)) (hr2 : Rd h O a2 (w.flatMap spV)) :
    GSpec Tryd.prog 31 [.agg ⟨plV p a c⟩, .slice a2 w.length c2, .int .i64 k] h O (Ret O (sureT p w k)) := by
  have e67 := fun O hr hr2 => f67 p w k a a2 c c2 hl hw hf hcap hcap2 h O hr hr2
  show GSpec Tryd.prog 31 [.agg ⟨[.int .i64 p.no, .int .i64 p.cell, .int .i64 p.noise, .int .i64 p.slab, .int .i64 p.jump, .int .i64 p.faults, .slice a p.log.length c]⟩, _, _] h O _
  by_cases he : entE p w k = 0
  · obtain ⟨ht, hk0, hkn, hlen⟩ := ent_ok he
    obtain ⟨hp, hwo⟩ := tell_ok ht
    have hpl := hp.1.2.2.2.2.2.2
    obtain ⟨n, hn⟩ : ∃ n : Nat, k = (n : Nat) := ⟨k.toNat, by omega⟩
    have hL : entL p w k = remV p w := if_pos he
    have hEnt : EntR p w k = fun v H => ∃ x, v = .tuple ⟨[x, .int .i64 0]⟩ ∧ LLR (remV p w) x H := by unfold EntR; rw [he, hL]
    rw [hEnt] at e67
    by_cases hz : (remV p w).length = 0
    · have hT : sureT p w k = tup3 0 false 33 := (if_neg (fun e => e he)).trans (if_pos hz)
      rw [hT]
      refine GSpec.enter (fn := Tryd.f31) Tryd.func31 rfl (by kernel_rfl) ?_
      repeat' (conv => whnf
               first
               | (((with_reducible refine CallSt.new (f := 67) (R := (fun v H => ∃ x, v = .tuple ⟨[x, .int .i64 0]⟩ ∧ LLR (remV p w) x H)) ?_ ?_); (· exact e67 _ (Rd.cons hr) (Rd.cons hr2)); rintro _ H1 ⟨_, rfl, la, lc, lvs, rfl, lr, lt, ll⟩))
               | (with_reducible refine NextSt.mk ?_)
               | (with_reducible refine OnBB.tt ?_)
               | (with_reducible refine OnBB.ff ?_)
               | ((with_reducible apply Cmp.yes); · first | omega | (with_reducible assumption) | (with_reducible rfl))
               | ((with_reducible apply Cmp.no); · first | omega | (with_reducible assumption))
               | ((with_reducible apply LoadSt.boxAgg); · (repeat (first | exact List.Mem.head _ | with_reducible apply List.mem_append_right | with_reducible apply List.mem_cons_of_mem)))
               | ((with_reducible refine AllocSt.mk ?_); intro _b _hb _hbO))
      conv => whnf
      refine FinSt.ret (by (try dsimp only); (try simp only [List.cons_append, List.nil_append]); (repeat (first | with_reducible exact List.Sublist.refl _ | with_reducible exact List.nil_sublist _ | with_reducible apply List.Sublist.cons_cons | with_reducible apply sub_app | apply List.Sublist.cons_cons | apply sub_app | with_reducible apply List.Sublist.cons | with_reducible apply sub_skip))) ?_
      rfl
    · have hT : sureT p w k = if sureP p w k then tup3 (stAt p w k 0) true 0 else tup3 0 false 0 := (if_neg (fun e => e he)).trans (if_neg hz)
      rw [hT]
      have hn' : k.toNat = n := by rw [hn]; rfl
      have hst : ∀ i, ((remV p w).getD i []).getD n 0 = stAt p w k i := fun i => by unfold stAt; rw [hn']
      refine GSpec.enter (fn := Tryd.f31) Tryd.func31 rfl (by kernel_rfl) ?_
      repeat' (conv => whnf
               first
               | (((with_reducible refine CallSt.new (f := 67) (R := (fun v H => ∃ x, v = .tuple ⟨[x, .int .i64 0]⟩ ∧ LLR (remV p w) x H)) ?_ ?_); (· exact e67 _ (Rd.cons hr) (Rd.cons hr2)); rintro _ H1 ⟨_, rfl, la, lc, lvs, rfl, lr, lt, ll⟩))
               | (with_reducible refine NextSt.mk ?_)
               | (with_reducible refine OnBB.ff ?_)
               | ((with_reducible apply Cmp.no); · first | omega | (with_reducible assumption))
               | ((with_reducible apply LoadSt.boxAgg); · (repeat (first | exact List.Mem.head _ | with_reducible apply List.mem_append_right | with_reducible apply List.mem_cons_of_mem)))
               | ((with_reducible refine AllocSt.mk ?_); intro _b _hb _hbO))
      have hvl := lt.1
      obtain ⟨a0, c0, hv0, hr0⟩ := gS_at lt (i := 0) (by omega)
      have hl0 := (remV_at (w := w) hp (i := 0) (by omega)).1.1
      refine LoopSt.fix [6, 7, 8, 11, 25, 26, 27, 28, 29, 30, 31, 32, 33, 34, 35, 36, 37, 38, 39, 40, 41, 42, 43, 44] (fun (i : Nat) => [(11, iN i)]) (fun _ => _) (fun i => i ≤ (remV p w).length ∧ ∀ j < i, stAt p w k j = stAt p w k 0) (fun i => (remV p w).length - i) (0) _ (Wk.refl _ _) (rfl) ?_ ?_ ?_
      · repeat' (first | exact True.intro | refine And.intro ?_ ?_ | rfl | exact congrArg (Value.int _) (by omega) | exact congrArg (fun n => Value.slice _ n _) (by (try dsimp only); omega))
      · exact ⟨Nat.zero_le _, fun j hj => by omega⟩
      · rintro i d ⟨hi, hall⟩
        by_cases hil : i < (remV p w).length
        · obtain ⟨a3, c3, hvi, hri⟩ := gS_at lt hil
          have hl3 := (remV_at hp hil).1.1
          have hsi := hst i
          have hs0 := hst 0
          by_cases hs : stAt p w k i = stAt p w k 0
          · subst hn
            repeat' (conv => whnf
                     first
                     | (((with_reducible apply LoadSt.rdm (g := gS) (k := i)); (· (repeat (first | with_reducible assumption | (with_reducible apply Buf.rd; with_reducible assumption) | (with_reducible apply Rd.appL; with_reducible assumption) | (with_reducible apply Rd.appL; with_reducible apply Buf.rd; with_reducible assumption) | (with_reducible apply Rd.ofH; with_reducible assumption) | (with_reducible apply Rd.ofH1; with_reducible assumption) | with_reducible apply Rd.cons | with_reducible apply Rd.appR))); (· omega)); rw [hvi]; unfold gS)
                     | (((with_reducible apply LoadSt.rdm (g := gS) (k := 0)); (· (repeat (first | with_reducible assumption | (with_reducible apply Buf.rd; with_reducible assumption) | (with_reducible apply Rd.appL; with_reducible assumption) | (with_reducible apply Rd.appL; with_reducible apply Buf.rd; with_reducible assumption) | (with_reducible apply Rd.ofH; with_reducible assumption) | (with_reducible apply Rd.ofH1; with_reducible assumption) | with_reducible apply Rd.cons | with_reducible apply Rd.appR))); (· omega)); rw [hv0]; unfold gS)
                     | (((with_reducible apply LoadSt.rdZ (k := n) (xs := (remV p w).getD i [])); (· (repeat (first | with_reducible assumption | (with_reducible apply Buf.rd; with_reducible assumption) | (with_reducible apply Rd.appL; with_reducible assumption) | (with_reducible apply Rd.appL; with_reducible apply Buf.rd; with_reducible assumption) | (with_reducible apply Rd.ofH; with_reducible assumption) | (with_reducible apply Rd.ofH1; with_reducible assumption) | with_reducible apply Rd.cons | with_reducible apply Rd.appR))); (· omega)); rw [hsi])
                     | (((with_reducible apply LoadSt.rdZ (k := n) (xs := (remV p w).getD 0 [])); (· (repeat (first | with_reducible assumption | (with_reducible apply Buf.rd; with_reducible assumption) | (with_reducible apply Rd.appL; with_reducible assumption) | (with_reducible apply Rd.appL; with_reducible apply Buf.rd; with_reducible assumption) | (with_reducible apply Rd.ofH; with_reducible assumption) | (with_reducible apply Rd.ofH1; with_reducible assumption) | with_reducible apply Rd.cons | with_reducible apply Rd.appR))); (· omega)); rw [hs0])
                     | ((with_reducible refine DrawSt.walk [0, 1, 2, 3, 4, 5, 6, 7, 8, 9, 10, 11, 12, 13] mixed ?_ ?_); · decide +kernel)
                     | (with_reducible refine NextSt.mk ?_)
                     | (with_reducible refine OnBB.tt ?_)
                     | (with_reducible refine OnBB.ff ?_)
                     | ((with_reducible apply NW.addN); (· first | with_reducible rfl | exact natL _); (· first | with_reducible rfl | exact natL _); (· omega))
                     | ((with_reducible apply Cmp.yes); · first | omega | (with_reducible assumption) | (with_reducible rfl))
                     | ((with_reducible apply Cmp.no); · first | omega | (with_reducible assumption))
                     | ((with_reducible apply IdxSl.rd1); (· with_reducible assumption); (· rfl); (· first | with_reducible rfl | exact natL _); (· (first | omega | (simp only [List.length_map, List.length_append, List.length_cons, List.length_nil, List.length_take, List.length_drop, List.length_replicate, List.length_set] at *; omega))); · (first | omega | (simp only [List.length_map, List.length_append, List.length_cons, List.length_nil, List.length_take, List.length_drop, List.length_replicate, List.length_set] at *; omega))))
            refine RoundFix.mk (i + 1) ?_ ?_ _ rfl (Wk.drop (by (try dsimp only); (try simp only [List.cons_append, List.nil_append]); (repeat (first | with_reducible exact List.Sublist.refl _ | with_reducible exact List.nil_sublist _ | with_reducible apply List.Sublist.cons_cons | with_reducible apply sub_app | apply List.Sublist.cons_cons | apply sub_app | with_reducible apply List.Sublist.cons | with_reducible apply sub_skip)))) ?_
            · omega
            · repeat' (first | exact True.intro | refine And.intro ?_ ?_ | rfl | exact congrArg (Value.int _) (by omega) | exact congrArg (fun n => Value.slice _ n _) (by (try dsimp only); omega))
            · refine ⟨hil, fun j hj => ?_⟩
              by_cases e : j = i
              · rw [e]; exact hs
              · exact hall j (by omega)
          · rw [if_neg (show ¬ sureP p w k from fun hx => hs (hx i hil))]
            subst hn
            repeat' (conv => whnf
                     first
                     | (((with_reducible apply LoadSt.rdm (g := gS) (k := i)); (· (repeat (first | with_reducible assumption | (with_reducible apply Buf.rd; with_reducible assumption) | (with_reducible apply Rd.appL; with_reducible assumption) | (with_reducible apply Rd.appL; with_reducible apply Buf.rd; with_reducible assumption) | (with_reducible apply Rd.ofH; with_reducible assumption) | (with_reducible apply Rd.ofH1; with_reducible assumption) | with_reducible apply Rd.cons | with_reducible apply Rd.appR))); (· omega)); rw [hvi]; unfold gS)
                     | (((with_reducible apply LoadSt.rdm (g := gS) (k := 0)); (· (repeat (first | with_reducible assumption | (with_reducible apply Buf.rd; with_reducible assumption) | (with_reducible apply Rd.appL; with_reducible assumption) | (with_reducible apply Rd.appL; with_reducible apply Buf.rd; with_reducible assumption) | (with_reducible apply Rd.ofH; with_reducible assumption) | (with_reducible apply Rd.ofH1; with_reducible assumption) | with_reducible apply Rd.cons | with_reducible apply Rd.appR))); (· omega)); rw [hv0]; unfold gS)
                     | (((with_reducible apply LoadSt.rdZ (k := n) (xs := (remV p w).getD i [])); (· (repeat (first | with_reducible assumption | (with_reducible apply Buf.rd; with_reducible assumption) | (with_reducible apply Rd.appL; with_reducible assumption) | (with_reducible apply Rd.appL; with_reducible apply Buf.rd; with_reducible assumption) | (with_reducible apply Rd.ofH; with_reducible assumption) | (with_reducible apply Rd.ofH1; with_reducible assumption) | with_reducible apply Rd.cons | with_reducible apply Rd.appR))); (· omega)); rw [hsi])
                     | (((with_reducible apply LoadSt.rdZ (k := n) (xs := (remV p w).getD 0 [])); (· (repeat (first | with_reducible assumption | (with_reducible apply Buf.rd; with_reducible assumption) | (with_reducible apply Rd.appL; with_reducible assumption) | (with_reducible apply Rd.appL; with_reducible apply Buf.rd; with_reducible assumption) | (with_reducible apply Rd.ofH; with_reducible assumption) | (with_reducible apply Rd.ofH1; with_reducible assumption) | with_reducible apply Rd.cons | with_reducible apply Rd.appR))); (· omega)); rw [hs0])
                     | ((with_reducible refine DrawSt.walk [0, 1, 2, 3, 4, 5, 6, 7, 8, 9, 10, 11, 12, 13] mixed ?_ ?_); · decide +kernel)
                     | (with_reducible refine NextSt.mk ?_)
                     | (with_reducible refine OnBB.tt ?_)
                     | ((with_reducible apply Cmp.yes); · first | omega | (with_reducible assumption) | (with_reducible rfl))
                     | ((with_reducible apply IdxSl.rd1); (· with_reducible assumption); (· rfl); (· first | with_reducible rfl | exact natL _); (· (first | omega | (simp only [List.length_map, List.length_append, List.length_cons, List.length_nil, List.length_take, List.length_drop, List.length_replicate, List.length_set] at *; omega))); · (first | omega | (simp only [List.length_map, List.length_append, List.length_cons, List.length_nil, List.length_take, List.length_drop, List.length_replicate, List.length_set] at *; omega))))
            conv => whnf
            refine FinSt.ret (by (try dsimp only); (try simp only [List.cons_append, List.nil_append]); (repeat (first | with_reducible exact List.Sublist.refl _ | with_reducible exact List.nil_sublist _ | with_reducible apply List.Sublist.cons_cons | with_reducible apply sub_app | apply List.Sublist.cons_cons | apply sub_app | with_reducible apply List.Sublist.cons | with_reducible apply sub_skip))) ?_
            rfl
        · rw [if_pos (show sureP p w k from fun j hj => hall j (by omega))]
          have hs0 := hst 0
          subst hn
          repeat' (conv => whnf
                   first
                   | (((with_reducible apply LoadSt.rdm (g := gS) (k := 0)); (· (repeat (first | with_reducible assumption | (with_reducible apply Buf.rd; with_reducible assumption) | (with_reducible apply Rd.appL; with_reducible assumption) | (with_reducible apply Rd.appL; with_reducible apply Buf.rd; with_reducible assumption) | (with_reducible apply Rd.ofH; with_reducible assumption) | (with_reducible apply Rd.ofH1; with_reducible assumption) | with_reducible apply Rd.cons | with_reducible apply Rd.appR))); (· omega)); rw [hv0]; unfold gS)
                   | (((with_reducible apply LoadSt.rdZ (k := n) (xs := (remV p w).getD 0 [])); (· (repeat (first | with_reducible assumption | (with_reducible apply Buf.rd; with_reducible assumption) | (with_reducible apply Rd.appL; with_reducible assumption) | (with_reducible apply Rd.appL; with_reducible apply Buf.rd; with_reducible assumption) | (with_reducible apply Rd.ofH; with_reducible assumption) | (with_reducible apply Rd.ofH1; with_reducible assumption) | with_reducible apply Rd.cons | with_reducible apply Rd.appR))); (· omega)); rw [hs0])
                   | (with_reducible refine NextSt.mk ?_)
                   | (with_reducible refine OnBB.ff ?_)
                   | ((with_reducible apply Cmp.no); · first | omega | (with_reducible assumption))
                   | ((with_reducible apply IdxSl.rd1); (· with_reducible assumption); (· rfl); (· first | with_reducible rfl | exact natL _); (· (first | omega | (simp only [List.length_map, List.length_append, List.length_cons, List.length_nil, List.length_take, List.length_drop, List.length_replicate, List.length_set] at *; omega))); · (first | omega | (simp only [List.length_map, List.length_append, List.length_cons, List.length_nil, List.length_take, List.length_drop, List.length_replicate, List.length_set] at *; omega))))
          conv => whnf
          refine FinSt.ret (by (try dsimp only); (try simp only [List.cons_append, List.nil_append]); (repeat (first | with_reducible exact List.Sublist.refl _ | with_reducible exact List.nil_sublist _ | with_reducible apply List.Sublist.cons_cons | with_reducible apply sub_app | apply List.Sublist.cons_cons | apply sub_app | with_reducible apply List.Sublist.cons | with_reducible apply sub_skip))) ?_
          rfl
  · have hT : sureT p w k = tup3 0 false (entE p w k) := if_pos he
    rw [hT]
    refine GSpec.enter (fn := Tryd.f31) Tryd.func31 rfl (by kernel_rfl) ?_
    repeat' (conv => whnf
             first
             | (((with_reducible refine CallSt.new (f := 67) (R := (EntR p w k)) ?_ ?_); (· exact e67 _ (Rd.cons hr) (Rd.cons hr2)); rintro _ H1 ⟨lx, rfl, hlx⟩))
             | (with_reducible refine NextSt.mk ?_)
             | (with_reducible refine OnBB.tt ?_)
             | ((with_reducible apply Cmp.yes); · first | omega | (with_reducible assumption) | (with_reducible rfl))
             | ((with_reducible apply LoadSt.boxAgg); · (repeat (first | exact List.Mem.head _ | with_reducible apply List.mem_append_right | with_reducible apply List.mem_cons_of_mem)))
             | ((with_reducible refine AllocSt.mk ?_); intro _b _hb _hbO))
    conv => whnf
    refine FinSt.ret (by (try dsimp only); (try simp only [List.cons_append, List.nil_append]); (repeat (first | with_reducible exact List.Sublist.refl _ | with_reducible exact List.nil_sublist _ | with_reducible apply List.Sublist.cons_cons | with_reducible apply sub_app | apply List.Sublist.cons_cons | apply sub_app | with_reducible apply List.Sublist.cons | with_reducible apply sub_skip))) ?_
    rfl
end Go.Proofs.YtaahjlhfmkjefaaDoor
