/- The law of the ends. -/
import Derived.Test.YtaahjlhfmkjefaaDoorMo
set_option linter.unusedVariables false
set_option linter.unusedSimpArgs false
set_option linter.unusedSectionVars false
/- Every load between the ends occurs: the law's own function. -/
namespace Go.Proofs.YtaahjlhfmkjefaaDoor
open Go Go.Gv
set_option maxRecDepth 100000
set_option maxHeartbeats 16000000
set_option linter.unusedSimpArgs false
set_option linter.unusedVariables false
theorem wit_path {p : Pl} {w : List Sp} {l : List Int} {n : Nat} {v : Int} (ht : toldV p w l = 0) (hal : alive p w l) (hn : n < l.length) (hv : inS v (endI p w l n)) : witV p w l (filW (wI p w l n v) l.length 0 l.length) = 0 := by
  obtain ⟨hp, hwo, hc⟩ := told_ok ht
  have hful := fun j => (wOk_at hwo j).1
  have hpath := wI_path hful hal hn hv
  have hg := fun j (hj : j < l.length) => (filW_get (f := wI p w l n v) (a := 0) (b := l.length) hj).trans (if_pos ⟨Nat.zero_le _, hj⟩)
  have hall : ∀ i < l.length, witI p w l (filW (wI p w l n v) l.length 0 l.length) i := fun i hi => by
    refine ⟨by rw [hg i hi]; exact hpath.1 i hi, fun h0 => ?_⟩
    rw [hg i hi, hg (i - 1) (by omega)]
    have := hpath.2 (i - 1) (by omega)
    rw [show i - 1 + 1 = i by omega] at this
    exact this
  unfold witV
  rw [if_neg (fun e => e ht), if_pos ⟨filW_len, hall⟩]
theorem LoadSt.ownZ {h : View} {O : Hp} {b off j : Nat} {xs : List Int} {y : Int} {ty : TypeId} {fr : Nat × Nat} {K : Value → Prop} (m : (b, Obj.cells ⟨xs.map zI⟩ ty fr) ∈ O) (ho : off = j) (hj : j < xs.length) (hx : xs.getD j 0 = y)
    (hk : K (.int .i64 y)) : LoadSt h O b off none K := .ownm (g := zI) 0 m ho hj (by rw [hx]; exact hk)
theorem f55 (p : Pl) (w : List Sp) (l : List Int) (n : Nat) (v : Int) (a a2 a3 : Option Addr) (c c2 c3 : Nat) (ht : toldV p w l = 0) (hal : alive p w l) (hnl : n < l.length) (hv : inS v (endI p w l n)) (h : View) (O : Hp) (hr : Rd h O a (p.log.flatMap shV)) (hr2 : Rd h O a2 (w.flatMap spV)) (hr3 : Rd h O a3 (l.map zI)) :
    GSpec Tryd.prog 55 [.agg ⟨plV p a c⟩, .slice a2 w.length c2, .slice a3 l.length c3, iN n, .int .i64 v] h O (Ret O (.bool true)) := by
  obtain ⟨hp, hwo, hc⟩ := told_ok ht
  have hcl := hc.1
  have hpl := hp.1.2.2.2.2.2.2
  have hwl := hwo.1
  have hel := endsV_len p w l
  have heg := fun i (hi : i < l.length) => endsV_get (p := p) (w := w) hi
  have hful := fun j => (wOk_at hwo j).1
  have hei := fun i (hi : i < l.length) => end_in hp hwo hal hc.1 hi
  have hz := wit_path ht hal hnl hv
  have e22 := fun O hr hr2 hr3 => f22 p w l a a2 a3 c c2 c3 (by omega) (by omega) (by omega) h O hr hr2 hr3
  have e40 := fun X a4 c4 O hr hr2 hr3 hr4 => f40 p w l X a a2 a3 a4 c c2 c3 c4 (by omega) (by omega) (by omega) h O hr hr2 hr3 hr4
  have hLR : LoadsR p w l = fun v H => ∃ a c, v = .tuple ⟨[.slice a (endsV p w l).length c, .int .i64 0]⟩ ∧ RdH H a ((endsV p w l).flatMap spV) ∧ (endsV p w l).length ≤ c := by
    unfold LoadsR
    rw [show loadO p w l = endsV p w l from (if_pos ht).trans (if_pos hal), show loadE p w l = 0 from (if_neg (fun e => e ht)).trans (if_pos hal)]
  rw [hLR] at e22
  have hin : ∀ m < l.length, inS (wI p w l n v m) (endI p w l m) := fun m hm => wI_in hful hal hnl hv hm
  have hup : ∀ m, n ≤ m → m + 1 < l.length → min (max (wI p w l n v m + (w.getD m default).lo) (endI p w l (m + 1)).lo) (min (wI p w l n v m + (w.getD m default).hi) (endI p w l (m + 1)).hi) = wI p w l n v (m + 1) := fun m hm hml => by
    have h1 := end_on hful hml (by have := hei (m + 1) hml; unfold full; omega) (hin m (by omega))
    rw [wI_up hm]
    unfold full meetS addS at h1
    simp only [meetS, addS] at h1 ⊢
    omega
  have hdn : ∀ m, m < n → min (max (wI p w l n v (m + 1) - (w.getD m default).hi) (endI p w l m).lo) (min (wI p w l n v (m + 1) - (w.getD m default).lo) (endI p w l m).hi) = wI p w l n v m := fun m hm => by
    have h1 := end_back hful hal (i := m) (by omega) (hin (m + 1) (by omega))
    rw [wI_dn hm]
    unfold full meetS lessS at h1
    simp only [meetS, lessS] at h1 ⊢
    omega
  have h0 : wI p w l n v n = v := wI_at
  generalize wI p w l n v = f at *
  have hz0 : filW f l.length n (n + 1) = (List.replicate l.length 0).set n v := by
    rw [← filW_zero (f := f) (a := n) (b := n) (fun i _ => by omega), ← h0]
    exact (filW_set (fun i _ hne => by omega) (by omega)).symm
  show GSpec Tryd.prog 55 [.agg ⟨[.int .i64 p.no, .int .i64 p.cell, .int .i64 p.noise, .int .i64 p.slab, .int .i64 p.jump, .int .i64 p.faults, .slice a p.log.length c]⟩, _, _, _, _] h O _
  refine GSpec.enter (fn := Tryd.f55) Tryd.func55 rfl (by kernel_rfl) ?_
  repeat' (conv => whnf
           first
           | (((with_reducible refine CallSt.new (f := 22) (R := (fun v H => ∃ a c, v = .tuple ⟨[.slice a (endsV p w l).length c, .int .i64 0]⟩ ∧ RdH H a ((endsV p w l).flatMap spV) ∧ (endsV p w l).length ≤ c)) ?_ ?_); (· exact e22 _ (by (repeat (first | with_reducible assumption | (with_reducible apply Buf.rd; with_reducible assumption) | (with_reducible apply Rd.appL; with_reducible assumption) | (with_reducible apply Rd.appL; with_reducible apply Buf.rd; with_reducible assumption) | (with_reducible apply Rd.ofH; with_reducible assumption) | (with_reducible apply Rd.ofH1; with_reducible assumption) | with_reducible apply Rd.cons | with_reducible apply Rd.appR))) (by (repeat (first | with_reducible assumption | (with_reducible apply Buf.rd; with_reducible assumption) | (with_reducible apply Rd.appL; with_reducible assumption) | (with_reducible apply Rd.appL; with_reducible apply Buf.rd; with_reducible assumption) | (with_reducible apply Rd.ofH; with_reducible assumption) | (with_reducible apply Rd.ofH1; with_reducible assumption) | with_reducible apply Rd.cons | with_reducible apply Rd.appR))) (by (repeat (first | with_reducible assumption | (with_reducible apply Buf.rd; with_reducible assumption) | (with_reducible apply Rd.appL; with_reducible assumption) | (with_reducible apply Rd.appL; with_reducible apply Buf.rd; with_reducible assumption) | (with_reducible apply Rd.ofH; with_reducible assumption) | (with_reducible apply Rd.ofH1; with_reducible assumption) | with_reducible apply Rd.cons | with_reducible apply Rd.appR)))); rintro _ H2 ⟨ea, ec, rfl, er, el⟩))
           | (((apply MakeSt.n (n := l.length) (z := [zI 0])); (· rfl); (· rfl); (· (show 8 * _ ≤ _; omega)); (· omega); (· rfl); (· rfl); intro _b _hb _hbO; rw [rows_map]))
           | (with_reducible refine NextSt.mk ?_)
           | (with_reducible refine OnBB.ff ?_)
           | ((with_reducible apply NW.addN); (· first | with_reducible rfl | exact natL _); (· first | with_reducible rfl | exact natL _); (· omega))
           | ((with_reducible apply Cmp.no); · first | omega | (with_reducible assumption))
           | ((with_reducible apply LoadSt.boxAgg); · (repeat (first | exact List.Mem.head _ | with_reducible apply List.mem_append_right | with_reducible apply List.mem_cons_of_mem)))
           | ((with_reducible refine AllocSt.mk ?_); intro _b _hb _hbO)
           | ((with_reducible apply StoreSt.mapd); (· (repeat (first | exact Upd.hd | apply Upd.tl | apply Upd.app))); (· (first | exact Nat.zero_add _ | with_reducible rfl | omega | (show _ + _ * 1 = _; omega))); (· rfl); (· rfl); (· (first | omega | (simp only [List.length_map, List.length_append, List.length_cons, List.length_nil, List.length_take, List.length_drop, List.length_replicate, List.length_set] at *; omega))); · (first | exact Or.inl (Nat.le_refl _) | omega))
           | ((with_reducible apply IdxSl.own1); (· rfl); (· first | with_reducible rfl | exact natL _); · (first | omega | (simp only [List.length_map, List.length_append, List.length_cons, List.length_nil, List.length_take, List.length_drop, List.length_replicate, List.length_set] at *; omega))))
  rename_i b0 hb0 hb0O
  have hin2 : ∀ m < l.length, 0 ≤ f m ∧ f m ≤ 65536 := fun m hm => by
    have h1 := hin m hm
    have h2 := hei m hm
    unfold inS at h1
    omega
  refine LoopSt.fix [14, 41, 42, 43, 44, 45, 46, 47, 48, 49, 50, 51, 52, 53, 54, 55, 56, 57, 58, 59, 60, 61, 62, 63, 64, 65, 66, 67, 68, 69, 70, 71, 72, 73, 74, 75, 76, 77, 78, 79, 80, 81, 82, 83, 84, 85, 86] (fun (m : Nat) => [(14, iN (m + 1))]) (fun m => H2 ++ (_b, .cells ⟨(filW f l.length n (m + 1)).map zI⟩ 3 (0, 0)) :: (b0, .cells ⟨[.int .i64 p.no, .int .i64 p.cell, .int .i64 p.noise, .int .i64 p.slab, .int .i64 p.jump, .int .i64 p.faults, .slice a p.log.length c]⟩ 24 (0, 0)) :: O) (fun m => n ≤ m ∧ m < l.length) (fun m => l.length - m) (n) _ (Wk.refl _ _) ((by rw [hz0]; rfl)) ?_ ?_ ?_
  · repeat' (first | exact True.intro | refine And.intro ?_ ?_ | rfl | exact congrArg (Value.int _) (by omega) | exact congrArg (fun n => Value.slice _ n _) (by (try dsimp only); omega))
  · exact ⟨Nat.le_refl _, hnl⟩
  · rintro m d ⟨hnm, hml⟩
    by_cases hil : m + 1 < l.length
    · have hwm := wOk_at hwo m
      have hem := hei (m + 1) hil
      have hgm := heg (m + 1) hil
      have hfm := hin2 m hml
      have hgt : (filW f l.length n (m + 1)).getD m 0 = f m := by rw [filW_get hml, if_pos ⟨hnm, by omega⟩]
      have hst : (filW f l.length n (m + 1)).set (m + 1) (f (m + 1)) = filW f l.length n (m + 2) := filW_set (fun i _ hne => by omega) (by omega)
      have hlen := filW_len (f := f) (n := l.length) (a := n) (b := m + 1)
      have hlen2 := filW_len (f := f) (n := l.length) (a := n) (b := m + 2)
      have hu := hup m hnm hil
      generalize filW f l.length n (m + 1) = M at *
      generalize hM1 : filW f l.length n (m + 2) = M1 at *
      have hgt1 : M.getD (m + 1 - 1) 0 = f m := by rw [Nat.add_sub_cancel]; exact hgt
      have hw1 : (w.getD (m + 1 - 1) default) = w.getD m default := by rw [Nat.add_sub_cancel]
      have hb1 : mid (w.getD (m + 1 - 1) default).lo ∧ mid (w.getD (m + 1 - 1) default).hi := by rw [hw1]; omega
      repeat' (conv => whnf
               first
               | (((apply LoadSt.ownZ (xs := M) (j := m + 1 - 1) (y := f m)); (· (repeat (first | exact List.Mem.head _ | with_reducible apply List.mem_append_right | with_reducible apply List.mem_cons_of_mem))); (· omega); (· omega); (· exact hgt1)))
               | ((with_reducible refine DrawSt.walk [0, 1, 2, 3, 4, 5, 6, 7, 8, 9, 10, 11, 12, 13, 14, 15, 16, 17, 18, 19, 20, 21, 22, 23, 24, 25, 26, 27, 28, 29, 30, 31, 32, 33, 34, 35, 36, 37, 38, 39, 40] mixed ?_ ?_); · decide +kernel)
               | ((with_reducible apply LoadSt.rdf (g := spV) (s := 2)); (· (repeat (first | with_reducible assumption | (with_reducible apply Rd.any; with_reducible assumption) | (with_reducible apply Buf.rd; with_reducible assumption) | (with_reducible apply Rd.appL; with_reducible assumption) | (with_reducible apply Rd.appL; with_reducible apply Buf.rd; with_reducible assumption) | (with_reducible apply Rd.ofH; with_reducible assumption) | (with_reducible apply Rd.ofH1; with_reducible assumption) | with_reducible apply Rd.cons | with_reducible apply Rd.appR))); (· exact fun _ => rfl); (· (first | omega | (simp only [List.length_map, List.length_append, List.length_cons, List.length_nil, List.length_take, List.length_drop, List.length_replicate, List.length_set] at *; omega))); (· decide))
               | ((with_reducible apply IdxSl.rdg (g := spV) (s := 2)); (· with_reducible assumption); (· exact fun _ => rfl); (· decide); (· rfl); (· first | with_reducible rfl | exact natL _); (· (first | omega | (simp only [List.length_map, List.length_append, List.length_cons, List.length_nil, List.length_take, List.length_drop, List.length_replicate, List.length_set] at *; omega))); · (first | omega | (simp only [List.length_map, List.length_append, List.length_cons, List.length_nil, List.length_take, List.length_drop, List.length_replicate, List.length_set] at *; omega)))
               | (with_reducible refine NextSt.mk ?_)
               | (with_reducible refine OnBB.tt ?_)
               | ((with_reducible apply NW.addN); (· first | with_reducible rfl | exact natL _); (· first | with_reducible rfl | exact natL _); (· omega))
               | ((with_reducible apply NW.subN); (· first | with_reducible rfl | exact natL _); (· first | with_reducible rfl | exact natL _); (· omega))
               | ((with_reducible apply NW.i64); · omega)
               | ((with_reducible apply Cmp.yes); · first | omega | (with_reducible assumption) | (with_reducible rfl))
               | ((with_reducible apply StoreSt.mapd); (· (repeat (first | exact Upd.hd | apply Upd.tl | apply Upd.app))); (· (first | exact Nat.zero_add _ | with_reducible rfl | omega | (show _ + _ * 1 = _; omega))); (· rfl); (· rfl); (· (first | omega | (simp only [List.length_map, List.length_append, List.length_cons, List.length_nil, List.length_take, List.length_drop, List.length_replicate, List.length_set] at *; omega))); · (first | exact Or.inl (Nat.le_refl _) | omega))
               | (with_reducible apply MinMax.maxI)
               | (with_reducible apply MinMax.minI)
               | ((with_reducible apply IdxSl.own1); (· rfl); (· first | with_reducible rfl | exact natL _); · (first | omega | (simp only [List.length_map, List.length_append, List.length_cons, List.length_nil, List.length_take, List.length_drop, List.length_replicate, List.length_set] at *; omega))))
      have hval : min (max (f m + (w.getD (m + 1 - 1) default).lo) ((endsV p w l).getD (m + 1) default).lo) (min (f m + (w.getD (m + 1 - 1) default).hi) ((endsV p w l).getD (m + 1) default).hi) = f (m + 1) := by rw [hw1, hgm]; exact hu
      rw [hval, hst]
      subst hM1
      refine RoundFix.mk (m + 1) ?_ ?_ _ rfl (Wk.drop (by (try dsimp only); (try simp only [List.cons_append, List.nil_append]); (repeat (first | with_reducible exact List.Sublist.refl _ | with_reducible exact List.nil_sublist _ | with_reducible apply List.Sublist.cons_cons | with_reducible apply sub_app | apply List.Sublist.cons_cons | apply sub_app | with_reducible apply List.Sublist.cons | with_reducible apply sub_skip)))) ?_
      · omega
      · repeat' (first | exact True.intro | refine And.intro ?_ ?_ | rfl | exact congrArg (Value.int _) (by omega) | exact congrArg (fun n => Value.slice _ n _) (by (try dsimp only); omega))
      · exact ⟨by omega, hil⟩
    · have hme : m + 1 = l.length := by omega
      rw [hme]
      repeat' (conv => whnf
               first
               | (with_reducible refine NextSt.mk ?_)
               | (with_reducible refine OnBB.ff ?_)
               | ((with_reducible apply NW.i64); · omega)
               | ((with_reducible apply Cmp.no); · first | omega | (with_reducible assumption)))
      refine LoopSt.fix [15, 89, 90, 91, 92, 93, 94, 95, 96, 97, 98, 99, 100, 101, 102, 103, 104, 105, 106, 107, 108, 109, 110, 111, 112, 113, 114, 115, 116, 117, 118, 119, 120, 121, 122, 123, 124, 125, 126, 127, 128, 129, 130] (fun (s : Nat) => [(15, .int .i64 ((s : Int) - 1))]) (fun s => H2 ++ (_b, .cells ⟨(filW f l.length s l.length).map zI⟩ 3 (0, 0)) :: (b0, .cells ⟨[.int .i64 p.no, .int .i64 p.cell, .int .i64 p.noise, .int .i64 p.slab, .int .i64 p.jump, .int .i64 p.faults, .slice a p.log.length c]⟩ 24 (0, 0)) :: O) (fun s => s ≤ n) (fun s => s) (n) _ (Wk.refl _ _) (rfl) ?_ ?_ ?_
      · repeat' (first | exact True.intro | refine And.intro ?_ ?_ | rfl | exact congrArg (Value.int _) (by omega) | exact congrArg (fun n => Value.slice _ n _) (by (try dsimp only); omega))
      · exact Nat.le_refl _
      · intro s d2 hsn
        cases s with
        | zero =>
          have hlen := filW_len (f := f) (n := l.length) (a := 0) (b := l.length)
          generalize filW f l.length 0 l.length = M at *
          have e40' := fun O hr hr2 hr3 hr4 => e40 M (some ⟨_b, 0, none⟩) l.length O hr hr2 hr3 hr4
          rw [hz, hlen] at e40'
          repeat' (conv => whnf
                   first
                   | (((with_reducible refine CallSt.rd (f := 40) (X := .int .i64 0) ?_ ?_); (· exact e40' _ (by (repeat (first | with_reducible assumption | (with_reducible apply Buf.rd; with_reducible assumption) | (with_reducible apply Rd.appL; with_reducible assumption) | (with_reducible apply Rd.appL; with_reducible apply Buf.rd; with_reducible assumption) | (with_reducible apply Rd.ofH; with_reducible assumption) | (with_reducible apply Rd.ofH1; with_reducible assumption) | with_reducible apply Rd.cons | with_reducible apply Rd.appR))) (by (repeat (first | with_reducible assumption | (with_reducible apply Buf.rd; with_reducible assumption) | (with_reducible apply Rd.appL; with_reducible assumption) | (with_reducible apply Rd.appL; with_reducible apply Buf.rd; with_reducible assumption) | (with_reducible apply Rd.ofH; with_reducible assumption) | (with_reducible apply Rd.ofH1; with_reducible assumption) | with_reducible apply Rd.cons | with_reducible apply Rd.appR))) (by (repeat (first | with_reducible assumption | (with_reducible apply Buf.rd; with_reducible assumption) | (with_reducible apply Rd.appL; with_reducible assumption) | (with_reducible apply Rd.appL; with_reducible apply Buf.rd; with_reducible assumption) | (with_reducible apply Rd.ofH; with_reducible assumption) | (with_reducible apply Rd.ofH1; with_reducible assumption) | with_reducible apply Rd.cons | with_reducible apply Rd.appR))) (Rd.own0 (by (repeat (first | exact List.Mem.head _ | with_reducible apply List.mem_append_right | with_reducible apply List.mem_cons_of_mem)))))))
                   | (with_reducible refine NextSt.mk ?_)
                   | (with_reducible refine OnBB.ff ?_)
                   | ((with_reducible apply Cmp.yes); · first | omega | (with_reducible assumption) | (with_reducible rfl))
                   | ((with_reducible apply Cmp.no); · first | omega | (with_reducible assumption))
                   | ((with_reducible apply LoadSt.boxAgg); · (repeat (first | exact List.Mem.head _ | with_reducible apply List.mem_append_right | with_reducible apply List.mem_cons_of_mem))))
          conv => whnf
          refine FinSt.ret (by (try dsimp only); (try simp only [List.cons_append, List.nil_append]); (repeat (first | with_reducible exact List.Sublist.refl _ | with_reducible exact List.nil_sublist _ | with_reducible apply List.Sublist.cons_cons | with_reducible apply sub_app | apply List.Sublist.cons_cons | apply sub_app | with_reducible apply List.Sublist.cons | with_reducible apply sub_skip))) ?_
          rfl
        | succ i =>
          rw [show ((i + 1 : Nat) : Int) - 1 = (i : Nat) by omega]
          have hwm := wOk_at hwo i
          have hgi := heg i (by omega)
          have hfm := hin2 (i + 1) (by omega)
          have hst := filW_set (f := f) (n := l.length) (a := i + 1) (b := l.length) (a' := i) (b' := l.length) (k := i) (fun j _ hne => by omega) (by omega)
          have hgt : (filW f l.length (i + 1) l.length).getD (i + 1) 0 = f (i + 1) := by rw [filW_get (by omega), if_pos ⟨Nat.le_refl _, by omega⟩]
          have hlen := filW_len (f := f) (n := l.length) (a := i + 1) (b := l.length)
          have hlen2 := filW_len (f := f) (n := l.length) (a := i) (b := l.length)
          have hd := hdn i (by omega)
          generalize filW f l.length (i + 1) l.length = M at *
          generalize hM1 : filW f l.length i l.length = M1 at *
          repeat' (conv => whnf
                   first
                   | (((apply LoadSt.ownZ (xs := M) (j := i + 1) (y := f (i + 1))); (· (repeat (first | exact List.Mem.head _ | with_reducible apply List.mem_append_right | with_reducible apply List.mem_cons_of_mem))); (· omega); (· omega); (· exact hgt)))
                   | ((with_reducible refine DrawSt.walk [0, 1, 2, 3, 4, 5, 6, 7, 8, 9, 10, 11, 12, 13, 14, 15, 16, 17, 18, 19, 20, 21, 22, 23, 24, 25, 26, 27, 28, 29, 30, 31, 32, 33, 34, 35, 36, 37, 38] mixed ?_ ?_); · decide +kernel)
                   | ((with_reducible apply LoadSt.rdf (g := spV) (s := 2)); (· (repeat (first | with_reducible assumption | (with_reducible apply Rd.any; with_reducible assumption) | (with_reducible apply Buf.rd; with_reducible assumption) | (with_reducible apply Rd.appL; with_reducible assumption) | (with_reducible apply Rd.appL; with_reducible apply Buf.rd; with_reducible assumption) | (with_reducible apply Rd.ofH; with_reducible assumption) | (with_reducible apply Rd.ofH1; with_reducible assumption) | with_reducible apply Rd.cons | with_reducible apply Rd.appR))); (· exact fun _ => rfl); (· (first | omega | (simp only [List.length_map, List.length_append, List.length_cons, List.length_nil, List.length_take, List.length_drop, List.length_replicate, List.length_set] at *; omega))); (· decide))
                   | ((with_reducible apply IdxSl.rdg (g := spV) (s := 2)); (· with_reducible assumption); (· exact fun _ => rfl); (· decide); (· rfl); (· first | with_reducible rfl | exact natL _); (· (first | omega | (simp only [List.length_map, List.length_append, List.length_cons, List.length_nil, List.length_take, List.length_drop, List.length_replicate, List.length_set] at *; omega))); · (first | omega | (simp only [List.length_map, List.length_append, List.length_cons, List.length_nil, List.length_take, List.length_drop, List.length_replicate, List.length_set] at *; omega)))
                   | (with_reducible refine NextSt.mk ?_)
                   | (with_reducible refine OnBB.tt ?_)
                   | ((with_reducible apply NW.addN); (· first | with_reducible rfl | exact natL _); (· first | with_reducible rfl | exact natL _); (· omega))
                   | ((with_reducible apply NW.i64); · omega)
                   | ((with_reducible apply Cmp.yes); · first | omega | (with_reducible assumption) | (with_reducible rfl))
                   | ((with_reducible apply StoreSt.mapd); (· (repeat (first | exact Upd.hd | apply Upd.tl | apply Upd.app))); (· (first | exact Nat.zero_add _ | with_reducible rfl | omega | (show _ + _ * 1 = _; omega))); (· rfl); (· rfl); (· (first | omega | (simp only [List.length_map, List.length_append, List.length_cons, List.length_nil, List.length_take, List.length_drop, List.length_replicate, List.length_set] at *; omega))); · (first | exact Or.inl (Nat.le_refl _) | omega))
                   | (with_reducible apply MinMax.maxI)
                   | (with_reducible apply MinMax.minI)
                   | ((with_reducible apply IdxSl.own1); (· rfl); (· first | with_reducible rfl | exact natL _); · (first | omega | (simp only [List.length_map, List.length_append, List.length_cons, List.length_nil, List.length_take, List.length_drop, List.length_replicate, List.length_set] at *; omega))))
          have hval : min (max (f (i + 1) - (w.getD i default).hi) ((endsV p w l).getD i default).lo) (min (f (i + 1) - (w.getD i default).lo) ((endsV p w l).getD i default).hi) = f i := by rw [hgi]; exact hd
          rw [hval, hst]
          subst hM1
          refine RoundFix.mk (i) ?_ ?_ _ rfl (Wk.drop (by (try dsimp only); (try simp only [List.cons_append, List.nil_append]); (repeat (first | with_reducible exact List.Sublist.refl _ | with_reducible exact List.nil_sublist _ | with_reducible apply List.Sublist.cons_cons | with_reducible apply sub_app | apply List.Sublist.cons_cons | apply sub_app | with_reducible apply List.Sublist.cons | with_reducible apply sub_skip)))) ?_
          · omega
          · repeat' (first | exact True.intro | refine And.intro ?_ ?_ | rfl | exact congrArg (Value.int _) (by omega) | exact congrArg (fun n => Value.slice _ n _) (by (try dsimp only); omega))
          · omega
end Go.Proofs.YtaahjlhfmkjefaaDoor
/- The law of the ends: the walk. -/
namespace Go.Proofs.YtaahjlhfmkjefaaDoor
open Go Go.Gv
set_option maxRecDepth 100000
set_option maxHeartbeats 16000000
set_option linter.unusedSimpArgs false
set_option linter.unusedVariables false
theorem wit_in {p : Pl} {w : List Sp} {l u : List Int} (h : witV p w l u = 0) : u.length = l.length ∧ ∀ i < l.length, inS (u.getD i 0) (endI p w l i) := by
  unfold witV at h
  split at h
  · rename_i h1; exact absurd h h1
  · split at h
    · rename_i h2
      refine ⟨h2.1, fun i hi => ?_⟩
      have hp : path p w l (fun i => u.getD i 0) := ⟨fun j hj => (h2.2 j hj).1, fun j hj => by
        have := (h2.2 (j + 1) hj).2 (by omega)
        rw [Nat.add_sub_cancel] at this
        exact this⟩
      exact path_end hp (l.length - 1 - i) i (by omega)
    · cases h
theorem f15 (p : Pl) (w : List Sp) (l u : List Int) (k v : Int) (a a2 a3 a4 : Option Addr) (c c2 c3 c4 : Nat) (hl : p.log.length ≤ 9223372036854775807) (hw : w.length ≤ 9223372036854775807) (hll : l.length ≤ 9223372036854775807) (hlu : u.length ≤ 9223372036854775807) (h : View) (hpw : PowV h) (O : Hp) (hr : Rd h O a (p.log.flatMap shV)) (hr2 : Rd h O a2 (w.flatMap spV)) (hr3 : Rd h O a3 (l.map zI)) (hr4 : Rd h O a4 (u.map zI)) :
    GSpec Tryd.prog 15 [.agg ⟨plV p a c⟩, .slice a2 w.length c2, .slice a3 l.length c3, .slice a4 u.length c4, .int .i64 k, .int .i64 v] h O (Ret O (.bool true)) := by
  have e16 := fun O => f16 h hpw O
  have e22 := fun O hr hr2 hr3 => f22 p w l a a2 a3 c c2 c3 hl hw hll h O hr hr2 hr3
  show GSpec Tryd.prog 15 [.agg ⟨[.int .i64 p.no, .int .i64 p.cell, .int .i64 p.noise, .int .i64 p.slab, .int .i64 p.jump, .int .i64 p.faults, .slice a p.log.length c]⟩, _, _, _, _, _] h O _
  by_cases hA : toldV p w l = 0 ∧ alive p w l
  · obtain ⟨ht, hal⟩ := hA
    obtain ⟨hp, hwo, hc⟩ := told_ok ht
    have hcl := hc.1
    have hpl := hp.1.2.2.2.2.2.2
    have hLR : LoadsR p w l = fun v H => ∃ a c, v = .tuple ⟨[.slice a (endsV p w l).length c, .int .i64 0]⟩ ∧ RdH H a ((endsV p w l).flatMap spV) ∧ (endsV p w l).length ≤ c := by
      unfold LoadsR
      rw [show loadO p w l = endsV p w l from (if_pos ht).trans (if_pos hal), show loadE p w l = 0 from (if_neg (fun e => e ht)).trans (if_pos hal)]
    rw [hLR] at e22
    have hel := endsV_len p w l
    have heg := fun i (hi : i < l.length) => endsV_get (p := p) (w := w) hi
    by_cases hk : 0 ≤ k ∧ k < l.length
    · obtain ⟨n, hn⟩ : ∃ n : Nat, k = (n : Nat) := ⟨k.toNat, by omega⟩
      subst hn
      have hnl : n < l.length := by omega
      have hE : entV p w l (n : Int) = 0 := by unfold entV; rw [if_neg (fun e => e ht), if_pos ⟨by omega, by omega⟩, if_pos hal]
      have e53 := fun most O hr hr2 hr3 => f53 p w l n most a a2 a3 c c2 c3 hl hw hll h O hr hr2 hr3
      have hX : ∀ most, ∃ X : List Int, X.length = l.length ∧ X.getD n 0 = endB ((endsV p w l).getD n default) most ∧ witV p w l X = 0 ∧ WitR p w l (n : Int) most = fun v H => ∃ a c, v = .tuple ⟨[.slice a X.length c, .int .i64 0]⟩ ∧ RdH H a (X.map zI) := fun most => by
        have hX : witO p w l (n : Int) most = filW (witF p w l n most) l.length 0 l.length := if_pos hE
        refine ⟨filW (witF p w l n most) l.length 0 l.length, filW_len, ?_, wit_zero hE, ?_⟩
        · rw [filW_get hnl, if_pos ⟨Nat.zero_le _, hnl⟩, wit_end, heg n hnl]
        · unfold WitR; rw [hX, hE]
      obtain ⟨X1, hl1, hg1, hz1, hR1⟩ := hX true
      obtain ⟨X0, hl0, hg0, hz0, hR0⟩ := hX false
      have e53t := fun O hr hr2 hr3 => e53 true O hr hr2 hr3
      have e53f := fun O hr hr2 hr3 => e53 false O hr hr2 hr3
      rw [hR1] at e53t
      rw [hR0] at e53f
      clear e53 hR1 hR0
      dsimp only [endB] at hg1 hg0
      have e40 := fun X a5 c5 O hr hr2 hr3 hr5 => f40 p w l X a a2 a3 a5 c c2 c3 c5 hl hw hll h O hr hr2 hr3 hr5
      have e41 := fun a5 c5 O hr hr2 hr3 hr5 => e40 X1 a5 c5 O hr hr2 hr3 hr5
      have e42 := fun a5 c5 O hr hr2 hr3 hr5 => e40 X0 a5 c5 O hr hr2 hr3 hr5
      have e43 := fun O hr hr2 hr3 hr5 => e40 u a4 c4 O hr hr2 hr3 hr5
      rw [hz1] at e41
      rw [hz0] at e42
      clear e40
      have e55 := fun (hv : inS v (endI p w l n)) O hr hr2 hr3 => f55 p w l n v a a2 a3 c c2 c3 ht hal hnl hv h O hr hr2 hr3
      have hgn := heg n hnl
      refine GSpec.enter (fn := Tryd.f15) Tryd.func15 rfl (by kernel_rfl) ?_
      repeat' (conv => whnf
               first
               | (((with_reducible refine CallSt.rd (f := 16) (X := .bool true) ?_ ?_); (· exact e16 _)))
               | (((with_reducible refine CallSt.new (f := 22) (R := (fun v H => ∃ a c, v = .tuple ⟨[.slice a (endsV p w l).length c, .int .i64 0]⟩ ∧ RdH H a ((endsV p w l).flatMap spV) ∧ (endsV p w l).length ≤ c)) ?_ ?_); (· exact e22 _ (by (repeat (first | with_reducible assumption | (with_reducible apply Buf.rd; with_reducible assumption) | (with_reducible apply Rd.appL; with_reducible assumption) | (with_reducible apply Rd.appL; with_reducible apply Buf.rd; with_reducible assumption) | (with_reducible apply Rd.ofH; with_reducible assumption) | (with_reducible apply Rd.ofH1; with_reducible assumption) | with_reducible apply Rd.cons | with_reducible apply Rd.appR))) (by (repeat (first | with_reducible assumption | (with_reducible apply Buf.rd; with_reducible assumption) | (with_reducible apply Rd.appL; with_reducible assumption) | (with_reducible apply Rd.appL; with_reducible apply Buf.rd; with_reducible assumption) | (with_reducible apply Rd.ofH; with_reducible assumption) | (with_reducible apply Rd.ofH1; with_reducible assumption) | with_reducible apply Rd.cons | with_reducible apply Rd.appR))) (by (repeat (first | with_reducible assumption | (with_reducible apply Buf.rd; with_reducible assumption) | (with_reducible apply Rd.appL; with_reducible assumption) | (with_reducible apply Rd.appL; with_reducible apply Buf.rd; with_reducible assumption) | (with_reducible apply Rd.ofH; with_reducible assumption) | (with_reducible apply Rd.ofH1; with_reducible assumption) | with_reducible apply Rd.cons | with_reducible apply Rd.appR)))); rintro _ H0 ⟨ya, yc, rfl, yr, yl⟩))
               | (with_reducible refine NextSt.mk ?_)
               | (with_reducible refine OnBB.tt ?_)
               | (with_reducible refine OnBB.ff ?_)
               | ((with_reducible apply Cmp.no); · first | omega | (with_reducible assumption))
               | ((with_reducible apply LoadSt.boxAgg); · (repeat (first | exact List.Mem.head _ | with_reducible apply List.mem_append_right | with_reducible apply List.mem_cons_of_mem)))
               | ((with_reducible refine AllocSt.mk ?_); intro _b _hb _hbO))
      refine CallSt.new (f := 53) (R := fun v H => ∃ a c, v = .tuple ⟨[.slice a X1.length c, .int .i64 0]⟩ ∧ RdH H a (X1.map zI)) ?_ ?_
      · exact e53t _ (by (repeat (first | with_reducible assumption | (with_reducible apply Buf.rd; with_reducible assumption) | (with_reducible apply Rd.appL; with_reducible assumption) | (with_reducible apply Rd.appL; with_reducible apply Buf.rd; with_reducible assumption) | (with_reducible apply Rd.ofH; with_reducible assumption) | (with_reducible apply Rd.ofH1; with_reducible assumption) | with_reducible apply Rd.cons | with_reducible apply Rd.appR))) (by (repeat (first | with_reducible assumption | (with_reducible apply Buf.rd; with_reducible assumption) | (with_reducible apply Rd.appL; with_reducible assumption) | (with_reducible apply Rd.appL; with_reducible apply Buf.rd; with_reducible assumption) | (with_reducible apply Rd.ofH; with_reducible assumption) | (with_reducible apply Rd.ofH1; with_reducible assumption) | with_reducible apply Rd.cons | with_reducible apply Rd.appR))) (by (repeat (first | with_reducible assumption | (with_reducible apply Buf.rd; with_reducible assumption) | (with_reducible apply Rd.appL; with_reducible assumption) | (with_reducible apply Rd.appL; with_reducible apply Buf.rd; with_reducible assumption) | (with_reducible apply Rd.ofH; with_reducible assumption) | (with_reducible apply Rd.ofH1; with_reducible assumption) | with_reducible apply Rd.cons | with_reducible apply Rd.appR)))
      rintro _ H1 ⟨xa, xc, rfl, xr⟩
      repeat' (conv => whnf
               first
               | (with_reducible refine NextSt.mk ?_)
               | ((with_reducible apply LoadSt.boxAgg); · (repeat (first | exact List.Mem.head _ | with_reducible apply List.mem_append_right | with_reducible apply List.mem_cons_of_mem))))
      refine CallSt.new (f := 53) (R := fun v H => ∃ a c, v = .tuple ⟨[.slice a X0.length c, .int .i64 0]⟩ ∧ RdH H a (X0.map zI)) ?_ ?_
      · exact e53f _ (by (repeat (first | with_reducible assumption | (with_reducible apply Buf.rd; with_reducible assumption) | (with_reducible apply Rd.appL; with_reducible assumption) | (with_reducible apply Rd.appL; with_reducible apply Buf.rd; with_reducible assumption) | (with_reducible apply Rd.ofH; with_reducible assumption) | (with_reducible apply Rd.ofH1; with_reducible assumption) | with_reducible apply Rd.cons | with_reducible apply Rd.appR))) (by (repeat (first | with_reducible assumption | (with_reducible apply Buf.rd; with_reducible assumption) | (with_reducible apply Rd.appL; with_reducible assumption) | (with_reducible apply Rd.appL; with_reducible apply Buf.rd; with_reducible assumption) | (with_reducible apply Rd.ofH; with_reducible assumption) | (with_reducible apply Rd.ofH1; with_reducible assumption) | with_reducible apply Rd.cons | with_reducible apply Rd.appR))) (by (repeat (first | with_reducible assumption | (with_reducible apply Buf.rd; with_reducible assumption) | (with_reducible apply Rd.appL; with_reducible assumption) | (with_reducible apply Rd.appL; with_reducible apply Buf.rd; with_reducible assumption) | (with_reducible apply Rd.ofH; with_reducible assumption) | (with_reducible apply Rd.ofH1; with_reducible assumption) | with_reducible apply Rd.cons | with_reducible apply Rd.appR)))
      rintro _ H2 ⟨za, zc, rfl, zr⟩
      repeat' (conv => whnf
               first
               | ((with_reducible refine DrawSt.walk [0, 1, 2, 3, 4, 5, 6, 7, 8, 9, 10, 11, 12, 13, 14, 15, 16, 17, 18, 19, 20, 21, 22, 23, 24, 25, 26, 27, 28, 29, 30, 31, 32, 33, 34, 35, 36, 37, 38, 39, 40, 41, 42, 43] mixed ?_ ?_); · decide +kernel)
               | ((with_reducible apply LoadSt.rdf (g := spV) (s := 2)); (· (repeat (first | with_reducible assumption | (with_reducible apply Rd.any; with_reducible assumption) | (with_reducible apply Buf.rd; with_reducible assumption) | (with_reducible apply Rd.appL; with_reducible assumption) | (with_reducible apply Rd.appL; with_reducible apply Buf.rd; with_reducible assumption) | (with_reducible apply Rd.ofH; with_reducible assumption) | (with_reducible apply Rd.ofH1; with_reducible assumption) | with_reducible apply Rd.cons | with_reducible apply Rd.appR))); (· exact fun _ => rfl); (· (first | omega | (simp only [List.length_map, List.length_append, List.length_cons, List.length_nil, List.length_take, List.length_drop, List.length_replicate, List.length_set] at *; omega))); (· decide))
               | ((with_reducible apply IdxSl.rdg (g := spV) (s := 2)); (· with_reducible assumption); (· exact fun _ => rfl); (· decide); (· rfl); (· first | with_reducible rfl | exact natL _); (· (first | omega | (simp only [List.length_map, List.length_append, List.length_cons, List.length_nil, List.length_take, List.length_drop, List.length_replicate, List.length_set] at *; omega))); · (first | omega | (simp only [List.length_map, List.length_append, List.length_cons, List.length_nil, List.length_take, List.length_drop, List.length_replicate, List.length_set] at *; omega)))
               | ((with_reducible apply LoadSt.rdZ); (· (repeat (first | with_reducible assumption | (with_reducible apply Rd.any; with_reducible assumption) | (with_reducible apply Buf.rd; with_reducible assumption) | (with_reducible apply Rd.appL; with_reducible assumption) | (with_reducible apply Rd.appL; with_reducible apply Buf.rd; with_reducible assumption) | (with_reducible apply Rd.ofH; with_reducible assumption) | (with_reducible apply Rd.ofH1; with_reducible assumption) | with_reducible apply Rd.cons | with_reducible apply Rd.appR))); · (first | omega | (simp only [List.length_map, List.length_append, List.length_cons, List.length_nil, List.length_take, List.length_drop, List.length_replicate, List.length_set] at *; omega)))
               | (with_reducible refine NextSt.mk ?_)
               | (with_reducible refine OnBB.ff ?_)
               | ((with_reducible apply Cmp.no); · first | omega | (with_reducible assumption))
               | ((with_reducible apply LoadSt.boxAgg); · (repeat (first | exact List.Mem.head _ | with_reducible apply List.mem_append_right | with_reducible apply List.mem_cons_of_mem)))
               | ((with_reducible apply IdxSl.rd1); (· with_reducible assumption); (· rfl); (· first | with_reducible rfl | exact natL _); (· (first | omega | (simp only [List.length_map, List.length_append, List.length_cons, List.length_nil, List.length_take, List.length_drop, List.length_replicate, List.length_set] at *; omega))); · (first | omega | (simp only [List.length_map, List.length_append, List.length_cons, List.length_nil, List.length_take, List.length_drop, List.length_replicate, List.length_set] at *; omega))))
      by_cases hv : inS v (endI p w l n)
      all_goals
        have hv' := hv
        unfold inS at hv'
        rw [← hgn] at hv'
        by_cases hu : witV p w l u = 0
        · rw [hu] at e43
          obtain ⟨hul, hui⟩ := wit_in hu
          refine CallSt.rd (f := 40) (X := .int .i64 0) ?_ ?_
          · exact e41 xa xc _ (by (repeat (first | with_reducible assumption | (with_reducible apply Buf.rd; with_reducible assumption) | (with_reducible apply Rd.appL; with_reducible assumption) | (with_reducible apply Rd.appL; with_reducible apply Buf.rd; with_reducible assumption) | (with_reducible apply Rd.ofH; with_reducible assumption) | (with_reducible apply Rd.ofH1; with_reducible assumption) | with_reducible apply Rd.cons | with_reducible apply Rd.appR))) (by (repeat (first | with_reducible assumption | (with_reducible apply Buf.rd; with_reducible assumption) | (with_reducible apply Rd.appL; with_reducible assumption) | (with_reducible apply Rd.appL; with_reducible apply Buf.rd; with_reducible assumption) | (with_reducible apply Rd.ofH; with_reducible assumption) | (with_reducible apply Rd.ofH1; with_reducible assumption) | with_reducible apply Rd.cons | with_reducible apply Rd.appR))) (by (repeat (first | with_reducible assumption | (with_reducible apply Buf.rd; with_reducible assumption) | (with_reducible apply Rd.appL; with_reducible assumption) | (with_reducible apply Rd.appL; with_reducible apply Buf.rd; with_reducible assumption) | (with_reducible apply Rd.ofH; with_reducible assumption) | (with_reducible apply Rd.ofH1; with_reducible assumption) | with_reducible apply Rd.cons | with_reducible apply Rd.appR))) (by (repeat (first | with_reducible assumption | (with_reducible apply Buf.rd; with_reducible assumption) | (with_reducible apply Rd.appL; with_reducible assumption) | (with_reducible apply Rd.appL; with_reducible apply Buf.rd; with_reducible assumption) | (with_reducible apply Rd.ofH; with_reducible assumption) | (with_reducible apply Rd.ofH1; with_reducible assumption) | with_reducible apply Rd.cons | with_reducible apply Rd.appR)))
          repeat' (conv => whnf
                   first
                   | (with_reducible refine OnBB.ff ?_)
                   | ((with_reducible apply Cmp.no); · first | omega | (with_reducible assumption))
                   | ((with_reducible apply LoadSt.boxAgg); · (repeat (first | exact List.Mem.head _ | with_reducible apply List.mem_append_right | with_reducible apply List.mem_cons_of_mem))))
          refine CallSt.rd (f := 40) (X := .int .i64 0) ?_ ?_
          · exact e42 za zc _ (by (repeat (first | with_reducible assumption | (with_reducible apply Buf.rd; with_reducible assumption) | (with_reducible apply Rd.appL; with_reducible assumption) | (with_reducible apply Rd.appL; with_reducible apply Buf.rd; with_reducible assumption) | (with_reducible apply Rd.ofH; with_reducible assumption) | (with_reducible apply Rd.ofH1; with_reducible assumption) | with_reducible apply Rd.cons | with_reducible apply Rd.appR))) (by (repeat (first | with_reducible assumption | (with_reducible apply Buf.rd; with_reducible assumption) | (with_reducible apply Rd.appL; with_reducible assumption) | (with_reducible apply Rd.appL; with_reducible apply Buf.rd; with_reducible assumption) | (with_reducible apply Rd.ofH; with_reducible assumption) | (with_reducible apply Rd.ofH1; with_reducible assumption) | with_reducible apply Rd.cons | with_reducible apply Rd.appR))) (by (repeat (first | with_reducible assumption | (with_reducible apply Buf.rd; with_reducible assumption) | (with_reducible apply Rd.appL; with_reducible assumption) | (with_reducible apply Rd.appL; with_reducible apply Buf.rd; with_reducible assumption) | (with_reducible apply Rd.ofH; with_reducible assumption) | (with_reducible apply Rd.ofH1; with_reducible assumption) | with_reducible apply Rd.cons | with_reducible apply Rd.appR))) (by (repeat (first | with_reducible assumption | (with_reducible apply Buf.rd; with_reducible assumption) | (with_reducible apply Rd.appL; with_reducible assumption) | (with_reducible apply Rd.appL; with_reducible apply Buf.rd; with_reducible assumption) | (with_reducible apply Rd.ofH; with_reducible assumption) | (with_reducible apply Rd.ofH1; with_reducible assumption) | with_reducible apply Rd.cons | with_reducible apply Rd.appR)))
          repeat' (conv => whnf
                   first
                   | (with_reducible refine NextSt.mk ?_)
                   | (with_reducible refine OnBB.ff ?_)
                   | ((with_reducible apply Cmp.no); · first | omega | (with_reducible assumption))
                   | ((with_reducible apply LoadSt.boxAgg); · (repeat (first | exact List.Mem.head _ | with_reducible apply List.mem_append_right | with_reducible apply List.mem_cons_of_mem))))
          refine CallSt.rd (f := 40) (X := .int .i64 0) ?_ ?_
          · exact e43 _ (by (repeat (first | with_reducible assumption | (with_reducible apply Buf.rd; with_reducible assumption) | (with_reducible apply Rd.appL; with_reducible assumption) | (with_reducible apply Rd.appL; with_reducible apply Buf.rd; with_reducible assumption) | (with_reducible apply Rd.ofH; with_reducible assumption) | (with_reducible apply Rd.ofH1; with_reducible assumption) | with_reducible apply Rd.cons | with_reducible apply Rd.appR))) (by (repeat (first | with_reducible assumption | (with_reducible apply Buf.rd; with_reducible assumption) | (with_reducible apply Rd.appL; with_reducible assumption) | (with_reducible apply Rd.appL; with_reducible apply Buf.rd; with_reducible assumption) | (with_reducible apply Rd.ofH; with_reducible assumption) | (with_reducible apply Rd.ofH1; with_reducible assumption) | with_reducible apply Rd.cons | with_reducible apply Rd.appR))) (by (repeat (first | with_reducible assumption | (with_reducible apply Buf.rd; with_reducible assumption) | (with_reducible apply Rd.appL; with_reducible assumption) | (with_reducible apply Rd.appL; with_reducible apply Buf.rd; with_reducible assumption) | (with_reducible apply Rd.ofH; with_reducible assumption) | (with_reducible apply Rd.ofH1; with_reducible assumption) | with_reducible apply Rd.cons | with_reducible apply Rd.appR))) (by (repeat (first | with_reducible assumption | (with_reducible apply Buf.rd; with_reducible assumption) | (with_reducible apply Rd.appL; with_reducible assumption) | (with_reducible apply Rd.appL; with_reducible apply Buf.rd; with_reducible assumption) | (with_reducible apply Rd.ofH; with_reducible assumption) | (with_reducible apply Rd.ofH1; with_reducible assumption) | with_reducible apply Rd.cons | with_reducible apply Rd.appR)))
          repeat' (conv => whnf
                   first
                   | (with_reducible refine NextSt.mk ?_)
                   | (with_reducible refine OnBB.tt ?_)
                   | ((with_reducible apply Cmp.yes); · first | omega | (with_reducible assumption) | (with_reducible rfl)))
          refine LoopSt.fix [12, 19, 133, 134, 135, 136, 137, 138, 139, 140, 141, 142, 143, 144, 145, 146, 147, 148, 149, 150, 151, 152, 153, 154, 155, 156, 157, 158, 159, 160, 161, 162, 163, 164, 165, 166, 167] (fun (i : Nat) => [(19, iN i)]) (fun _ => _) (fun i => i ≤ l.length) (fun i => l.length - i) (0) _ (Wk.refl _ _) (rfl) ?_ ?_ ?_
          · repeat' (first | exact True.intro | refine And.intro ?_ ?_ | rfl | exact congrArg (Value.int _) (by omega) | exact congrArg (fun n => Value.slice _ n _) (by (try dsimp only); omega))
          · exact Nat.zero_le _
          · intro i d hi
            by_cases hil : i < l.length
            · have hgi := heg i hil
              have hii := hui i hil
              unfold inS at hii
              rw [← hgi] at hii
              repeat' (conv => whnf
                       first
                       | ((with_reducible refine DrawSt.walk [0, 1, 2, 3, 4, 5, 6, 7, 8, 9, 10, 11, 12, 13, 14, 15, 16, 17, 18, 19, 20, 21, 22, 23, 24, 25, 26, 27, 28] mixed ?_ ?_); · decide +kernel)
                       | ((with_reducible apply LoadSt.rdf (g := spV) (s := 2)); (· (repeat (first | with_reducible assumption | (with_reducible apply Rd.any; with_reducible assumption) | (with_reducible apply Buf.rd; with_reducible assumption) | (with_reducible apply Rd.appL; with_reducible assumption) | (with_reducible apply Rd.appL; with_reducible apply Buf.rd; with_reducible assumption) | (with_reducible apply Rd.ofH; with_reducible assumption) | (with_reducible apply Rd.ofH1; with_reducible assumption) | with_reducible apply Rd.cons | with_reducible apply Rd.appR))); (· exact fun _ => rfl); (· (first | omega | (simp only [List.length_map, List.length_append, List.length_cons, List.length_nil, List.length_take, List.length_drop, List.length_replicate, List.length_set] at *; omega))); (· decide))
                       | ((with_reducible apply IdxSl.rdg (g := spV) (s := 2)); (· with_reducible assumption); (· exact fun _ => rfl); (· decide); (· rfl); (· first | with_reducible rfl | exact natL _); (· (first | omega | (simp only [List.length_map, List.length_append, List.length_cons, List.length_nil, List.length_take, List.length_drop, List.length_replicate, List.length_set] at *; omega))); · (first | omega | (simp only [List.length_map, List.length_append, List.length_cons, List.length_nil, List.length_take, List.length_drop, List.length_replicate, List.length_set] at *; omega)))
                       | ((with_reducible apply LoadSt.rdZ); (· (repeat (first | with_reducible assumption | (with_reducible apply Rd.any; with_reducible assumption) | (with_reducible apply Buf.rd; with_reducible assumption) | (with_reducible apply Rd.appL; with_reducible assumption) | (with_reducible apply Rd.appL; with_reducible apply Buf.rd; with_reducible assumption) | (with_reducible apply Rd.ofH; with_reducible assumption) | (with_reducible apply Rd.ofH1; with_reducible assumption) | with_reducible apply Rd.cons | with_reducible apply Rd.appR))); · (first | omega | (simp only [List.length_map, List.length_append, List.length_cons, List.length_nil, List.length_take, List.length_drop, List.length_replicate, List.length_set] at *; omega)))
                       | (with_reducible refine NextSt.mk ?_)
                       | (with_reducible refine OnBB.tt ?_)
                       | (with_reducible refine OnBB.ff ?_)
                       | ((with_reducible apply NW.addN); (· first | with_reducible rfl | exact natL _); (· first | with_reducible rfl | exact natL _); (· omega))
                       | ((with_reducible apply Cmp.yes); · first | omega | (with_reducible assumption) | (with_reducible rfl))
                       | ((with_reducible apply Cmp.no); · first | omega | (with_reducible assumption))
                       | ((with_reducible apply IdxSl.rd1); (· with_reducible assumption); (· rfl); (· first | with_reducible rfl | exact natL _); (· (first | omega | (simp only [List.length_map, List.length_append, List.length_cons, List.length_nil, List.length_take, List.length_drop, List.length_replicate, List.length_set] at *; omega))); · (first | omega | (simp only [List.length_map, List.length_append, List.length_cons, List.length_nil, List.length_take, List.length_drop, List.length_replicate, List.length_set] at *; omega))))
              refine RoundFix.mk (i + 1) ?_ ?_ _ rfl (Wk.drop (by (try dsimp only); (try simp only [List.cons_append, List.nil_append]); (repeat (first | with_reducible exact List.Sublist.refl _ | with_reducible exact List.nil_sublist _ | with_reducible apply List.Sublist.cons_cons | with_reducible apply sub_app | apply List.Sublist.cons_cons | apply sub_app | with_reducible apply List.Sublist.cons | with_reducible apply sub_skip)))) ?_
              · omega
              · repeat' (first | exact True.intro | refine And.intro ?_ ?_ | rfl | exact congrArg (Value.int _) (by omega) | exact congrArg (fun n => Value.slice _ n _) (by (try dsimp only); omega))
              · omega
            · repeat' (conv => whnf
                       first
                       | (((with_reducible refine CallSt.rd (f := 55) (X := .bool true) ?_ ?_); (· exact e55 (by assumption) _ (by (repeat (first | with_reducible assumption | (with_reducible apply Buf.rd; with_reducible assumption) | (with_reducible apply Rd.appL; with_reducible assumption) | (with_reducible apply Rd.appL; with_reducible apply Buf.rd; with_reducible assumption) | (with_reducible apply Rd.ofH; with_reducible assumption) | (with_reducible apply Rd.ofH1; with_reducible assumption) | with_reducible apply Rd.cons | with_reducible apply Rd.appR))) (by (repeat (first | with_reducible assumption | (with_reducible apply Buf.rd; with_reducible assumption) | (with_reducible apply Rd.appL; with_reducible assumption) | (with_reducible apply Rd.appL; with_reducible apply Buf.rd; with_reducible assumption) | (with_reducible apply Rd.ofH; with_reducible assumption) | (with_reducible apply Rd.ofH1; with_reducible assumption) | with_reducible apply Rd.cons | with_reducible apply Rd.appR))) (by (repeat (first | with_reducible assumption | (with_reducible apply Buf.rd; with_reducible assumption) | (with_reducible apply Rd.appL; with_reducible assumption) | (with_reducible apply Rd.appL; with_reducible apply Buf.rd; with_reducible assumption) | (with_reducible apply Rd.ofH; with_reducible assumption) | (with_reducible apply Rd.ofH1; with_reducible assumption) | with_reducible apply Rd.cons | with_reducible apply Rd.appR))))))
                       | ((with_reducible apply LoadSt.rdf (g := spV) (s := 2)); (· (repeat (first | with_reducible assumption | (with_reducible apply Rd.any; with_reducible assumption) | (with_reducible apply Buf.rd; with_reducible assumption) | (with_reducible apply Rd.appL; with_reducible assumption) | (with_reducible apply Rd.appL; with_reducible apply Buf.rd; with_reducible assumption) | (with_reducible apply Rd.ofH; with_reducible assumption) | (with_reducible apply Rd.ofH1; with_reducible assumption) | with_reducible apply Rd.cons | with_reducible apply Rd.appR))); (· exact fun _ => rfl); (· (first | omega | (simp only [List.length_map, List.length_append, List.length_cons, List.length_nil, List.length_take, List.length_drop, List.length_replicate, List.length_set] at *; omega))); (· decide))
                       | ((with_reducible apply IdxSl.rdg (g := spV) (s := 2)); (· with_reducible assumption); (· exact fun _ => rfl); (· decide); (· rfl); (· first | with_reducible rfl | exact natL _); (· (first | omega | (simp only [List.length_map, List.length_append, List.length_cons, List.length_nil, List.length_take, List.length_drop, List.length_replicate, List.length_set] at *; omega))); · (first | omega | (simp only [List.length_map, List.length_append, List.length_cons, List.length_nil, List.length_take, List.length_drop, List.length_replicate, List.length_set] at *; omega)))
                       | (with_reducible refine NextSt.mk ?_)
                       | (with_reducible refine OnBB.tt ?_)
                       | (with_reducible refine OnBB.ff ?_)
                       | ((with_reducible apply Cmp.yes); · first | omega | (with_reducible assumption) | (with_reducible rfl))
                       | ((with_reducible apply Cmp.no); · first | omega | (with_reducible assumption))
                       | ((with_reducible apply LoadSt.boxAgg); · (repeat (first | exact List.Mem.head _ | with_reducible apply List.mem_append_right | with_reducible apply List.mem_cons_of_mem)))
                       | ((with_reducible refine Cmp.mk ?_ ?_) <;> intro _hc))
              all_goals ((conv => whnf); refine FinSt.ret (by (try dsimp only); (try simp only [List.cons_append, List.nil_append]); (repeat (first | with_reducible exact List.Sublist.refl _ | with_reducible exact List.nil_sublist _ | with_reducible apply List.Sublist.cons_cons | with_reducible apply sub_app | apply List.Sublist.cons_cons | apply sub_app | with_reducible apply List.Sublist.cons | with_reducible apply sub_skip))) ?_; rfl)
        · refine CallSt.rd (f := 40) (X := .int .i64 0) ?_ ?_
          · exact e41 xa xc _ (by (repeat (first | with_reducible assumption | (with_reducible apply Buf.rd; with_reducible assumption) | (with_reducible apply Rd.appL; with_reducible assumption) | (with_reducible apply Rd.appL; with_reducible apply Buf.rd; with_reducible assumption) | (with_reducible apply Rd.ofH; with_reducible assumption) | (with_reducible apply Rd.ofH1; with_reducible assumption) | with_reducible apply Rd.cons | with_reducible apply Rd.appR))) (by (repeat (first | with_reducible assumption | (with_reducible apply Buf.rd; with_reducible assumption) | (with_reducible apply Rd.appL; with_reducible assumption) | (with_reducible apply Rd.appL; with_reducible apply Buf.rd; with_reducible assumption) | (with_reducible apply Rd.ofH; with_reducible assumption) | (with_reducible apply Rd.ofH1; with_reducible assumption) | with_reducible apply Rd.cons | with_reducible apply Rd.appR))) (by (repeat (first | with_reducible assumption | (with_reducible apply Buf.rd; with_reducible assumption) | (with_reducible apply Rd.appL; with_reducible assumption) | (with_reducible apply Rd.appL; with_reducible apply Buf.rd; with_reducible assumption) | (with_reducible apply Rd.ofH; with_reducible assumption) | (with_reducible apply Rd.ofH1; with_reducible assumption) | with_reducible apply Rd.cons | with_reducible apply Rd.appR))) (by (repeat (first | with_reducible assumption | (with_reducible apply Buf.rd; with_reducible assumption) | (with_reducible apply Rd.appL; with_reducible assumption) | (with_reducible apply Rd.appL; with_reducible apply Buf.rd; with_reducible assumption) | (with_reducible apply Rd.ofH; with_reducible assumption) | (with_reducible apply Rd.ofH1; with_reducible assumption) | with_reducible apply Rd.cons | with_reducible apply Rd.appR)))
          repeat' (conv => whnf
                   first
                   | (with_reducible refine OnBB.ff ?_)
                   | ((with_reducible apply Cmp.no); · first | omega | (with_reducible assumption))
                   | ((with_reducible apply LoadSt.boxAgg); · (repeat (first | exact List.Mem.head _ | with_reducible apply List.mem_append_right | with_reducible apply List.mem_cons_of_mem))))
          refine CallSt.rd (f := 40) (X := .int .i64 0) ?_ ?_
          · exact e42 za zc _ (by (repeat (first | with_reducible assumption | (with_reducible apply Buf.rd; with_reducible assumption) | (with_reducible apply Rd.appL; with_reducible assumption) | (with_reducible apply Rd.appL; with_reducible apply Buf.rd; with_reducible assumption) | (with_reducible apply Rd.ofH; with_reducible assumption) | (with_reducible apply Rd.ofH1; with_reducible assumption) | with_reducible apply Rd.cons | with_reducible apply Rd.appR))) (by (repeat (first | with_reducible assumption | (with_reducible apply Buf.rd; with_reducible assumption) | (with_reducible apply Rd.appL; with_reducible assumption) | (with_reducible apply Rd.appL; with_reducible apply Buf.rd; with_reducible assumption) | (with_reducible apply Rd.ofH; with_reducible assumption) | (with_reducible apply Rd.ofH1; with_reducible assumption) | with_reducible apply Rd.cons | with_reducible apply Rd.appR))) (by (repeat (first | with_reducible assumption | (with_reducible apply Buf.rd; with_reducible assumption) | (with_reducible apply Rd.appL; with_reducible assumption) | (with_reducible apply Rd.appL; with_reducible apply Buf.rd; with_reducible assumption) | (with_reducible apply Rd.ofH; with_reducible assumption) | (with_reducible apply Rd.ofH1; with_reducible assumption) | with_reducible apply Rd.cons | with_reducible apply Rd.appR))) (by (repeat (first | with_reducible assumption | (with_reducible apply Buf.rd; with_reducible assumption) | (with_reducible apply Rd.appL; with_reducible assumption) | (with_reducible apply Rd.appL; with_reducible apply Buf.rd; with_reducible assumption) | (with_reducible apply Rd.ofH; with_reducible assumption) | (with_reducible apply Rd.ofH1; with_reducible assumption) | with_reducible apply Rd.cons | with_reducible apply Rd.appR)))
          repeat' (conv => whnf
                   first
                   | (with_reducible refine NextSt.mk ?_)
                   | (with_reducible refine OnBB.ff ?_)
                   | ((with_reducible apply Cmp.no); · first | omega | (with_reducible assumption))
                   | ((with_reducible apply LoadSt.boxAgg); · (repeat (first | exact List.Mem.head _ | with_reducible apply List.mem_append_right | with_reducible apply List.mem_cons_of_mem))))
          refine CallSt.rd (f := 40) (X := .int .i64 (witV p w l u)) ?_ ?_
          · exact e43 _ (by (repeat (first | with_reducible assumption | (with_reducible apply Buf.rd; with_reducible assumption) | (with_reducible apply Rd.appL; with_reducible assumption) | (with_reducible apply Rd.appL; with_reducible apply Buf.rd; with_reducible assumption) | (with_reducible apply Rd.ofH; with_reducible assumption) | (with_reducible apply Rd.ofH1; with_reducible assumption) | with_reducible apply Rd.cons | with_reducible apply Rd.appR))) (by (repeat (first | with_reducible assumption | (with_reducible apply Buf.rd; with_reducible assumption) | (with_reducible apply Rd.appL; with_reducible assumption) | (with_reducible apply Rd.appL; with_reducible apply Buf.rd; with_reducible assumption) | (with_reducible apply Rd.ofH; with_reducible assumption) | (with_reducible apply Rd.ofH1; with_reducible assumption) | with_reducible apply Rd.cons | with_reducible apply Rd.appR))) (by (repeat (first | with_reducible assumption | (with_reducible apply Buf.rd; with_reducible assumption) | (with_reducible apply Rd.appL; with_reducible assumption) | (with_reducible apply Rd.appL; with_reducible apply Buf.rd; with_reducible assumption) | (with_reducible apply Rd.ofH; with_reducible assumption) | (with_reducible apply Rd.ofH1; with_reducible assumption) | with_reducible apply Rd.cons | with_reducible apply Rd.appR))) (by (repeat (first | with_reducible assumption | (with_reducible apply Buf.rd; with_reducible assumption) | (with_reducible apply Rd.appL; with_reducible assumption) | (with_reducible apply Rd.appL; with_reducible apply Buf.rd; with_reducible assumption) | (with_reducible apply Rd.ofH; with_reducible assumption) | (with_reducible apply Rd.ofH1; with_reducible assumption) | with_reducible apply Rd.cons | with_reducible apply Rd.appR)))
          repeat' (conv => whnf
                   first
                   | (((with_reducible refine CallSt.rd (f := 55) (X := .bool true) ?_ ?_); (· exact e55 (by assumption) _ (by (repeat (first | with_reducible assumption | (with_reducible apply Buf.rd; with_reducible assumption) | (with_reducible apply Rd.appL; with_reducible assumption) | (with_reducible apply Rd.appL; with_reducible apply Buf.rd; with_reducible assumption) | (with_reducible apply Rd.ofH; with_reducible assumption) | (with_reducible apply Rd.ofH1; with_reducible assumption) | with_reducible apply Rd.cons | with_reducible apply Rd.appR))) (by (repeat (first | with_reducible assumption | (with_reducible apply Buf.rd; with_reducible assumption) | (with_reducible apply Rd.appL; with_reducible assumption) | (with_reducible apply Rd.appL; with_reducible apply Buf.rd; with_reducible assumption) | (with_reducible apply Rd.ofH; with_reducible assumption) | (with_reducible apply Rd.ofH1; with_reducible assumption) | with_reducible apply Rd.cons | with_reducible apply Rd.appR))) (by (repeat (first | with_reducible assumption | (with_reducible apply Buf.rd; with_reducible assumption) | (with_reducible apply Rd.appL; with_reducible assumption) | (with_reducible apply Rd.appL; with_reducible apply Buf.rd; with_reducible assumption) | (with_reducible apply Rd.ofH; with_reducible assumption) | (with_reducible apply Rd.ofH1; with_reducible assumption) | with_reducible apply Rd.cons | with_reducible apply Rd.appR))))))
                   | ((with_reducible apply LoadSt.rdf (g := spV) (s := 2)); (· (repeat (first | with_reducible assumption | (with_reducible apply Rd.any; with_reducible assumption) | (with_reducible apply Buf.rd; with_reducible assumption) | (with_reducible apply Rd.appL; with_reducible assumption) | (with_reducible apply Rd.appL; with_reducible apply Buf.rd; with_reducible assumption) | (with_reducible apply Rd.ofH; with_reducible assumption) | (with_reducible apply Rd.ofH1; with_reducible assumption) | with_reducible apply Rd.cons | with_reducible apply Rd.appR))); (· exact fun _ => rfl); (· (first | omega | (simp only [List.length_map, List.length_append, List.length_cons, List.length_nil, List.length_take, List.length_drop, List.length_replicate, List.length_set] at *; omega))); (· decide))
                   | ((with_reducible apply IdxSl.rdg (g := spV) (s := 2)); (· with_reducible assumption); (· exact fun _ => rfl); (· decide); (· rfl); (· first | with_reducible rfl | exact natL _); (· (first | omega | (simp only [List.length_map, List.length_append, List.length_cons, List.length_nil, List.length_take, List.length_drop, List.length_replicate, List.length_set] at *; omega))); · (first | omega | (simp only [List.length_map, List.length_append, List.length_cons, List.length_nil, List.length_take, List.length_drop, List.length_replicate, List.length_set] at *; omega)))
                   | (with_reducible refine NextSt.mk ?_)
                   | (with_reducible refine OnBB.tt ?_)
                   | (with_reducible refine OnBB.ff ?_)
                   | ((with_reducible apply Cmp.yes); · first | omega | (with_reducible assumption) | (with_reducible rfl))
                   | ((with_reducible apply Cmp.no); · first | omega | (with_reducible assumption))
                   | ((with_reducible apply LoadSt.boxAgg); · (repeat (first | exact List.Mem.head _ | with_reducible apply List.mem_append_right | with_reducible apply List.mem_cons_of_mem)))
                   | ((with_reducible refine Cmp.mk ?_ ?_) <;> intro _hc))
          all_goals ((conv => whnf); refine FinSt.ret (by (try dsimp only); (try simp only [List.cons_append, List.nil_append]); (repeat (first | with_reducible exact List.Sublist.refl _ | with_reducible exact List.nil_sublist _ | with_reducible apply List.Sublist.cons_cons | with_reducible apply sub_app | apply List.Sublist.cons_cons | apply sub_app | with_reducible apply List.Sublist.cons | with_reducible apply sub_skip))) ?_; rfl)
    · refine GSpec.enter (fn := Tryd.f15) Tryd.func15 rfl (by kernel_rfl) ?_
      repeat' (conv => whnf
               first
               | (((with_reducible refine CallSt.rd (f := 16) (X := .bool true) ?_ ?_); (· exact e16 _)))
               | (((with_reducible refine CallSt.new (f := 22) (R := (fun v H => ∃ a c, v = .tuple ⟨[.slice a (endsV p w l).length c, .int .i64 0]⟩ ∧ RdH H a ((endsV p w l).flatMap spV) ∧ (endsV p w l).length ≤ c)) ?_ ?_); (· exact e22 _ (by (repeat (first | with_reducible assumption | (with_reducible apply Buf.rd; with_reducible assumption) | (with_reducible apply Rd.appL; with_reducible assumption) | (with_reducible apply Rd.appL; with_reducible apply Buf.rd; with_reducible assumption) | (with_reducible apply Rd.ofH; with_reducible assumption) | (with_reducible apply Rd.ofH1; with_reducible assumption) | with_reducible apply Rd.cons | with_reducible apply Rd.appR))) (by (repeat (first | with_reducible assumption | (with_reducible apply Buf.rd; with_reducible assumption) | (with_reducible apply Rd.appL; with_reducible assumption) | (with_reducible apply Rd.appL; with_reducible apply Buf.rd; with_reducible assumption) | (with_reducible apply Rd.ofH; with_reducible assumption) | (with_reducible apply Rd.ofH1; with_reducible assumption) | with_reducible apply Rd.cons | with_reducible apply Rd.appR))) (by (repeat (first | with_reducible assumption | (with_reducible apply Buf.rd; with_reducible assumption) | (with_reducible apply Rd.appL; with_reducible assumption) | (with_reducible apply Rd.appL; with_reducible apply Buf.rd; with_reducible assumption) | (with_reducible apply Rd.ofH; with_reducible assumption) | (with_reducible apply Rd.ofH1; with_reducible assumption) | with_reducible apply Rd.cons | with_reducible apply Rd.appR)))); rintro _ H0 ⟨ya, yc, rfl, yr, yl⟩))
               | (with_reducible refine NextSt.mk ?_)
               | (with_reducible refine OnBB.tt ?_)
               | (with_reducible refine OnBB.ff ?_)
               | ((with_reducible apply Cmp.yes); · first | omega | (with_reducible assumption) | (with_reducible rfl))
               | ((with_reducible apply Cmp.no); · first | omega | (with_reducible assumption))
               | ((with_reducible apply LoadSt.boxAgg); · (repeat (first | exact List.Mem.head _ | with_reducible apply List.mem_append_right | with_reducible apply List.mem_cons_of_mem)))
               | ((with_reducible refine AllocSt.mk ?_); intro _b _hb _hbO)
               | ((with_reducible refine Cmp.mk ?_ ?_) <;> intro _hc))
      all_goals ((conv => whnf); refine FinSt.ret (by (try dsimp only); (try simp only [List.cons_append, List.nil_append]); (repeat (first | with_reducible exact List.Sublist.refl _ | with_reducible exact List.nil_sublist _ | with_reducible apply List.Sublist.cons_cons | with_reducible apply sub_app | apply List.Sublist.cons_cons | apply sub_app | with_reducible apply List.Sublist.cons | with_reducible apply sub_skip))) ?_; rfl)
  · have hO : loadO p w l = [] := by
      unfold loadO endsO
      split
      · rename_i h1
        exact if_neg fun h2 => hA ⟨h1, h2⟩
      · rfl
    have hE : loadE p w l ≠ 0 := by
      unfold loadE
      split
      · rename_i h1; exact h1
      · rename_i h1
        rw [if_neg fun h2 => hA ⟨Classical.not_not.1 h1, h2⟩]
        decide
    have hLR : LoadsR p w l = fun v H => ∃ a c, v = .tuple ⟨[.slice a 0 c, .int .i64 (loadE p w l)]⟩ ∧ RdH H a [] ∧ 0 ≤ c := by
      unfold LoadsR
      rw [hO]; rfl
    rw [hLR] at e22
    refine GSpec.enter (fn := Tryd.f15) Tryd.func15 rfl (by kernel_rfl) ?_
    repeat' (conv => whnf
             first
             | (((with_reducible refine CallSt.rd (f := 16) (X := .bool true) ?_ ?_); (· exact e16 _)))
             | (((with_reducible refine CallSt.new (f := 22) (R := (fun v H => ∃ a c, v = .tuple ⟨[.slice a 0 c, .int .i64 (loadE p w l)]⟩ ∧ RdH H a [] ∧ 0 ≤ c)) ?_ ?_); (· exact e22 _ (by (repeat (first | with_reducible assumption | (with_reducible apply Buf.rd; with_reducible assumption) | (with_reducible apply Rd.appL; with_reducible assumption) | (with_reducible apply Rd.appL; with_reducible apply Buf.rd; with_reducible assumption) | (with_reducible apply Rd.ofH; with_reducible assumption) | (with_reducible apply Rd.ofH1; with_reducible assumption) | with_reducible apply Rd.cons | with_reducible apply Rd.appR))) (by (repeat (first | with_reducible assumption | (with_reducible apply Buf.rd; with_reducible assumption) | (with_reducible apply Rd.appL; with_reducible assumption) | (with_reducible apply Rd.appL; with_reducible apply Buf.rd; with_reducible assumption) | (with_reducible apply Rd.ofH; with_reducible assumption) | (with_reducible apply Rd.ofH1; with_reducible assumption) | with_reducible apply Rd.cons | with_reducible apply Rd.appR))) (by (repeat (first | with_reducible assumption | (with_reducible apply Buf.rd; with_reducible assumption) | (with_reducible apply Rd.appL; with_reducible assumption) | (with_reducible apply Rd.appL; with_reducible apply Buf.rd; with_reducible assumption) | (with_reducible apply Rd.ofH; with_reducible assumption) | (with_reducible apply Rd.ofH1; with_reducible assumption) | with_reducible apply Rd.cons | with_reducible apply Rd.appR)))); rintro _ H0 ⟨ya, yc, rfl, yr, yl⟩))
             | (with_reducible refine NextSt.mk ?_)
             | (with_reducible refine OnBB.tt ?_)
             | (with_reducible refine OnBB.ff ?_)
             | ((with_reducible apply Cmp.yes); · first | omega | (with_reducible assumption) | (with_reducible rfl))
             | ((with_reducible apply Cmp.no); · first | omega | (with_reducible assumption))
             | ((with_reducible apply LoadSt.boxAgg); · (repeat (first | exact List.Mem.head _ | with_reducible apply List.mem_append_right | with_reducible apply List.mem_cons_of_mem)))
             | ((with_reducible refine AllocSt.mk ?_); intro _b _hb _hbO))
    conv => whnf
    refine FinSt.ret (by (try dsimp only); (try simp only [List.cons_append, List.nil_append]); (repeat (first | with_reducible exact List.Sublist.refl _ | with_reducible exact List.nil_sublist _ | with_reducible apply List.Sublist.cons_cons | with_reducible apply sub_app | apply List.Sublist.cons_cons | apply sub_app | with_reducible apply List.Sublist.cons | with_reducible apply sub_skip))) ?_
    rfl
end Go.Proofs.YtaahjlhfmkjefaaDoor
