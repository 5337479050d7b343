/- Witnesses. -/
import Derived.Test.YtaahjlhfmkjefaaDoorMi
import Derived.Test.YtaahjlhfmkjefaaDoorAc
set_option linter.unusedVariables false
set_option linter.unusedSimpArgs false
set_option linter.unusedSectionVars false
/- Loads through an end: the program's function. -/
namespace Go.Proofs.YtaahjlhfmkjefaaDoor
open Go Go.Gv
set_option maxRecDepth 100000
set_option maxHeartbeats 16000000
set_option linter.unusedSimpArgs false
set_option linter.unusedVariables false
theorem f80 (i : Nat) (xs : List Int) (bc bx n m : Nat) (hi : i < xs.length) (hn : xs.length = n) (hm : n ≤ 64) (h : View) (O : Hp) (m1 : (bc, Obj.cells ⟨[.slice (some ⟨bx, 0, none⟩) n n]⟩ 26 (0, 0)) ∈ O) (m2 : (bx, Obj.cells ⟨xs.map zI⟩ 3 (0, 0)) ∈ O) :
    GSpec Tryd.prog 80 [iN i, .pointer (some ⟨bc, 0, none⟩)] h O (Ret O (.agg ⟨[.int .i64 (xs.getD i 0), .int .i64 (xs.getD i 0)]⟩)) := by
  have hr : Rd h O (some ⟨bx, 0, none⟩) (xs.map zI) := Rd.own0 m2
  have hr1 : Rd h O (some ⟨bc, 0, none⟩) [.slice (some ⟨bx, 0, none⟩) n n] := Rd.own0 m1
  subst hn
  refine GSpec.enter (fn := Tryd.f80) Tryd.func80 rfl (by kernel_rfl) ?_
  repeat' (conv => whnf
           first
           | (((apply LoadSt.own (l := [.slice (some ⟨bx, 0, none⟩) xs.length xs.length]) (c := .slice (some ⟨bx, 0, none⟩) xs.length xs.length)); (· exact List.mem_cons_of_mem _ m1); (· rfl)))
           | (((apply IdxSl.own1 (j := i)); (· rfl); (· rfl); (· exact hi)))
           | (((apply LoadSt.ownm (g := zI) (xs := xs) (j := i) 0); (· exact List.mem_cons_of_mem _ m2); (· omega); (· exact hi)))
           | ((with_reducible refine DrawSt.walk [0, 1, 2, 3, 4, 5, 6, 7, 8, 9] mixed ?_ ?_); · decide +kernel)
           | (with_reducible refine NextSt.mk ?_)
           | ((with_reducible apply LoadSt.boxAgg); · (repeat (first | exact List.Mem.head _ | with_reducible apply List.mem_append_right | with_reducible apply List.mem_cons_of_mem)))
           | ((with_reducible refine AllocSt.mk ?_); intro _b _hb _hbO)
           | ((with_reducible apply StoreSt.box); (· (repeat (first | exact Upd.hd | apply Upd.tl | apply Upd.app))); (· rfl); (· rfl); (· rfl)))
  conv => whnf
  refine FinSt.ret (by (try dsimp only); (try simp only [List.cons_append, List.nil_append]); (repeat (first | with_reducible exact List.Sublist.refl _ | with_reducible exact List.nil_sublist _ | with_reducible apply List.Sublist.cons_cons | with_reducible apply sub_app | apply List.Sublist.cons_cons | apply sub_app | with_reducible apply List.Sublist.cons | with_reducible apply sub_skip))) ?_
  rfl
/-- The loads that are named. -/
def endB (x : Sp) (most : Bool) : Int := match most with | true => x.hi | false => x.lo
def witF (p : Pl) (w : List Sp) (l : List Int) (k : Nat) (most : Bool) : Nat → Int := wI p w l k (endB (endI p w l k) most)
def witO (p : Pl) (w : List Sp) (l : List Int) (k : Int) (most : Bool) : List Int := if entV p w l k = 0 then filW (witF p w l k.toNat most) l.length 0 l.length else []
def WitR (p : Pl) (w : List Sp) (l : List Int) (k : Int) (most : Bool) (v : Value) (H : Hp) : Prop := ∃ a c, v = .tuple ⟨[.slice a (witO p w l k most).length c, .int .i64 (entV p w l k)]⟩ ∧ RdH H a ((witO p w l k most).map zI)
theorem WitR.none {p : Pl} {w : List Sp} {l : List Int} {k e : Int} {most : Bool} (h : entV p w l k = e) (hn : e ≠ 0) : WitR p w l k most (.tuple ⟨[.slice none 0 0, .int .i64 e]⟩) [] := by
  have h1 : witO p w l k most = [] := if_neg (by rw [h]; exact hn)
  exact ⟨Option.none, 0, by rw [h1, h]; rfl, by rw [h1]; exact Rd.nil⟩
theorem endB_in {x : Sp} (h : full x) (most : Bool) : inS (endB x most) x := by
  cases most
  · exact ⟨Int.le_refl _, h⟩
  · exact ⟨h, Int.le_refl _⟩
theorem f53 (p : Pl) (w : List Sp) (l : List Int) (k : Int) (most : Bool) (a a2 a3 : Option Addr) (c c2 c3 : Nat) (hl : p.log.length ≤ 9223372036854775807) (hw : w.length ≤ 9223372036854775807) (hll : l.length ≤ 9223372036854775807) (h : View) (O : Hp) (hr : Rd h O a (p.log.flatMap shV)) (hr2 : Rd h O a2 (w.flatMap spV)) (hr3 : Rd h O a3 (l.map zI)) :
    GSpec Tryd.prog 53 [.agg ⟨plV p a c⟩, .slice a2 w.length c2, .slice a3 l.length c3, .int .i64 k, .bool most] h O (New O (WitR p w l k most)) := by
  have e62 := fun O hr hr2 hr3 => f62 p w l a a2 a3 c c2 c3 hl hw hll h O hr hr2 hr3
  show GSpec Tryd.prog 53 [.agg ⟨[.int .i64 p.no, .int .i64 p.cell, .int .i64 p.noise, .int .i64 p.slab, .int .i64 p.jump, .int .i64 p.faults, .slice a p.log.length c]⟩, _, _, _, _] h O _
  by_cases ht : toldV p w l = 0
  · obtain ⟨hp, hwo, hc⟩ := told_ok ht
    have hpl := hp.1.2.2.2.2.2.2
    have hcl := hc.1
    have hwl := hwo.1
    rw [ht] at e62
    have e63 := fun O hr hr2 hr3 => f63 p w l a a2 a3 c c2 c3 hp hwo hc.1 h O hr hr2 hr3
    by_cases hk : 0 ≤ k ∧ k < p.log.length
    · obtain ⟨hk0, hkn⟩ := hk
      by_cases hal : alive p w l
      · have hends : endsO p w l = endsV p w l := if_pos hal
        have hEn : EndsR p w l = fun v H => ∃ a c, v = .tuple ⟨[.slice a (endsV p w l).length c, .bool true]⟩ ∧ RdH H a ((endsV p w l).flatMap spV) ∧ (endsV p w l).length ≤ c := by
          unfold EndsR; rw [hends, decide_eq_true hal]
        rw [hEn] at e63
        have hel := endsV_len p w l
        obtain ⟨n, hn⟩ : ∃ n : Nat, k = (n : Nat) := ⟨k.toNat, by omega⟩
        subst hn
        have hnl : n < l.length := by omega
        have hEV : entV p w l (n : Int) = 0 := by unfold entV; rw [if_neg (fun e => e ht), if_pos ⟨hk0, hkn⟩, if_pos hal]
        have heg := fun i (hi : i < l.length) => endsV_get (p := p) (w := w) hi
        have hei := fun i (hi : i < l.length) => end_in hp hwo hal hc.1 hi
        have hz : filW (witF p w l n most) l.length n (n + 1) = (List.replicate l.length 0).set n (endB ((endsV p w l).getD n default) most) := by
          rw [heg n hnl, ← filW_zero (f := witF p w l n most) (a := n) (b := n) (fun i _ => by omega), show endB (endI p w l n) most = witF p w l n most n from wI_at.symm]
          exact (filW_set (fun i _ hne => by omega) (by omega)).symm
        have hup : ∀ m, n ≤ m → witF p w l n most (m + 1) = (meetS (endI p w l (m + 1)) (addS ⟨witF p w l n most m, witF p w l n most m⟩ (w.getD m default))).lo := fun m hm => wI_up hm
        have hdn : ∀ m, m < n → witF p w l n most m = (meetS (endI p w l m) (lessS ⟨witF p w l n most (m + 1), witF p w l n most (m + 1)⟩ (w.getD m default))).lo := fun m hm => wI_dn hm
        have hin : ∀ m < l.length, 0 ≤ witF p w l n most m ∧ witF p w l n most m ≤ 65536 := fun m hm => by
          have h1 := wI_in (fun j => (wOk_at hwo j).1) hal hnl (endB_in (end_full (fun j => (wOk_at hwo j).1) hal (l.length - 1 - n) n (by omega)) most) hm
          have h2 := hei m hm
          unfold inS at h1
          unfold witF
          omega
        have e80 : ∀ m a b bc bx O, m < l.length → a ≤ m → m < b → (bc, Obj.cells ⟨[.slice (some ⟨bx, 0, none⟩) l.length l.length]⟩ 26 (0, 0)) ∈ O → (bx, Obj.cells ⟨(filW (witF p w l n most) l.length a b).map zI⟩ 3 (0, 0)) ∈ O →
            GSpec Tryd.prog 80 [iN m, .pointer (some ⟨bc, 0, none⟩)] h O (Ret O (.agg ⟨[.int .i64 (witF p w l n most m), .int .i64 (witF p w l n most m)]⟩)) := fun m a b bc bx O hm h1 h2 m1 m2 => by
          have e8 := f80 m (filW (witF p w l n most) l.length a b) bc bx l.length l.length (by rw [filW_len]; exact hm) filW_len (by omega) h O m1 m2
          rw [filW_get hm, if_pos ⟨h1, h2⟩] at e8
          exact e8
        have hWO : witO p w l (n : Int) most = filW (witF p w l n most) l.length 0 l.length := if_pos hEV
        have hWR : WitR p w l (n : Int) most = fun v H => ∃ a c, v = .tuple ⟨[.slice a l.length c, .int .i64 0]⟩ ∧ RdH H a ((filW (witF p w l n most) l.length 0 l.length).map zI) := by
          unfold WitR; rw [hWO, hEV, filW_len]
        rw [hWR]
        cases most
        all_goals
          generalize hf : witF p w l n _ = f at *
          refine GSpec.enter (fn := Tryd.f53) Tryd.func53 rfl (by kernel_rfl) ?_
          repeat' (conv => whnf
                   first
                   | (((with_reducible refine CallSt.rd (f := 62) (X := .int .i64 0) ?_ ?_); (· exact e62 _ (by (repeat (first | with_reducible assumption | (with_reducible apply Buf.rd; with_reducible assumption) | (with_reducible apply Rd.appL; with_reducible assumption) | (with_reducible apply Rd.appL; with_reducible apply Buf.rd; with_reducible assumption) | (with_reducible apply Rd.ofH; with_reducible assumption) | (with_reducible apply Rd.ofH1; with_reducible assumption) | with_reducible apply Rd.cons | with_reducible apply Rd.appR))) (by (repeat (first | with_reducible assumption | (with_reducible apply Buf.rd; with_reducible assumption) | (with_reducible apply Rd.appL; with_reducible assumption) | (with_reducible apply Rd.appL; with_reducible apply Buf.rd; with_reducible assumption) | (with_reducible apply Rd.ofH; with_reducible assumption) | (with_reducible apply Rd.ofH1; with_reducible assumption) | with_reducible apply Rd.cons | with_reducible apply Rd.appR))) (by (repeat (first | with_reducible assumption | (with_reducible apply Buf.rd; with_reducible assumption) | (with_reducible apply Rd.appL; with_reducible assumption) | (with_reducible apply Rd.appL; with_reducible apply Buf.rd; with_reducible assumption) | (with_reducible apply Rd.ofH; with_reducible assumption) | (with_reducible apply Rd.ofH1; with_reducible assumption) | with_reducible apply Rd.cons | with_reducible apply Rd.appR))))))
                   | (((with_reducible refine CallSt.new (f := 63) (R := (fun v H => ∃ a c, v = .tuple ⟨[.slice a (endsV p w l).length c, .bool true]⟩ ∧ RdH H a ((endsV p w l).flatMap spV) ∧ (endsV p w l).length ≤ c)) ?_ ?_); (· exact e63 _ (by (repeat (first | with_reducible assumption | (with_reducible apply Buf.rd; with_reducible assumption) | (with_reducible apply Rd.appL; with_reducible assumption) | (with_reducible apply Rd.appL; with_reducible apply Buf.rd; with_reducible assumption) | (with_reducible apply Rd.ofH; with_reducible assumption) | (with_reducible apply Rd.ofH1; with_reducible assumption) | with_reducible apply Rd.cons | with_reducible apply Rd.appR))) (by (repeat (first | with_reducible assumption | (with_reducible apply Buf.rd; with_reducible assumption) | (with_reducible apply Rd.appL; with_reducible assumption) | (with_reducible apply Rd.appL; with_reducible apply Buf.rd; with_reducible assumption) | (with_reducible apply Rd.ofH; with_reducible assumption) | (with_reducible apply Rd.ofH1; with_reducible assumption) | with_reducible apply Rd.cons | with_reducible apply Rd.appR))) (by (repeat (first | with_reducible assumption | (with_reducible apply Buf.rd; with_reducible assumption) | (with_reducible apply Rd.appL; with_reducible assumption) | (with_reducible apply Rd.appL; with_reducible apply Buf.rd; with_reducible assumption) | (with_reducible apply Rd.ofH; with_reducible assumption) | (with_reducible apply Rd.ofH1; with_reducible assumption) | with_reducible apply Rd.cons | with_reducible apply Rd.appR)))); rintro _ H2 ⟨ea, ec, rfl, er, el⟩))
                   | (((apply MakeSt.n (n := l.length) (z := [zI 0])); (· rfl); (· rfl); (· (show 8 * _ ≤ _; omega)); (· omega); (· rfl); (· rfl); intro _b _hb _hbO; rw [rows_map]))
                   | ((with_reducible refine DrawSt.walk [0, 1, 2, 3, 4, 5, 6, 7, 8] mixed ?_ ?_); · decide +kernel)
                   | ((with_reducible apply LoadSt.rdf (g := spV) (s := 2)); (· (repeat (first | with_reducible assumption | (with_reducible apply Rd.any; with_reducible assumption) | (with_reducible apply Buf.rd; with_reducible assumption) | (with_reducible apply Rd.appL; with_reducible assumption) | (with_reducible apply Rd.appL; with_reducible apply Buf.rd; with_reducible assumption) | (with_reducible apply Rd.ofH; with_reducible assumption) | (with_reducible apply Rd.ofH1; with_reducible assumption) | with_reducible apply Rd.cons | with_reducible apply Rd.appR))); (· exact fun _ => rfl); (· (first | omega | (simp only [List.length_map, List.length_append, List.length_cons, List.length_nil, List.length_take, List.length_drop, List.length_replicate, List.length_set] at *; omega))); (· decide))
                   | ((with_reducible apply IdxSl.rdg (g := spV) (s := 2)); (· with_reducible assumption); (· exact fun _ => rfl); (· decide); (· rfl); (· first | with_reducible rfl | exact natL _); (· (first | omega | (simp only [List.length_map, List.length_append, List.length_cons, List.length_nil, List.length_take, List.length_drop, List.length_replicate, List.length_set] at *; omega))); · (first | omega | (simp only [List.length_map, List.length_append, List.length_cons, List.length_nil, List.length_take, List.length_drop, List.length_replicate, List.length_set] at *; omega)))
                   | (with_reducible refine NextSt.mk ?_)
                   | (with_reducible refine OnBB.tt ?_)
                   | (with_reducible refine OnBB.ff ?_)
                   | ((with_reducible apply NW.addN); (· first | with_reducible rfl | exact natL _); (· first | with_reducible rfl | exact natL _); (· omega))
                   | ((with_reducible apply Cmp.no); · first | omega | (with_reducible assumption))
                   | ((with_reducible apply LoadSt.box); · (repeat (first | exact List.Mem.head _ | with_reducible apply List.mem_append_right | with_reducible apply List.mem_cons_of_mem)))
                   | ((with_reducible apply LoadSt.boxAgg); · (repeat (first | exact List.Mem.head _ | with_reducible apply List.mem_append_right | with_reducible apply List.mem_cons_of_mem)))
                   | ((with_reducible refine AllocSt.mk ?_); intro _b _hb _hbO)
                   | ((with_reducible apply StoreSt.mapd); (· (repeat (first | exact Upd.hd | apply Upd.tl | apply Upd.app))); (· (first | exact Nat.zero_add _ | with_reducible rfl | omega | (show _ + _ * 1 = _; omega))); (· rfl); (· rfl); (· (first | omega | (simp only [List.length_map, List.length_append, List.length_cons, List.length_nil, List.length_take, List.length_drop, List.length_replicate, List.length_set] at *; omega))); · (first | exact Or.inl (Nat.le_refl _) | omega))
                   | ((with_reducible apply StoreSt.box); (· (repeat (first | exact Upd.hd | apply Upd.tl | apply Upd.app))); (· rfl); (· rfl); (· rfl))
                   | ((with_reducible apply IdxSl.own1); (· rfl); (· first | with_reducible rfl | exact natL _); · (first | omega | (simp only [List.length_map, List.length_append, List.length_cons, List.length_nil, List.length_take, List.length_drop, List.length_replicate, List.length_set] at *; omega))))
          rename_i b0 hb0 hb0O b1 hb1 hb1O bx hbx hbxO
          refine LoopSt.fix [18, 71, 72, 73, 74, 75, 76, 77, 78, 79, 80, 81, 82, 83, 84, 85, 86, 87, 88, 89, 90, 91, 92, 93, 94, 95] (fun (m : Nat) => [(18, iN (m + 1))]) (fun m => (_b, .cells ⟨[.slice (some ⟨bx, 0, none⟩) l.length l.length]⟩ 26 (0, 0)) :: (bx, .cells ⟨(filW f l.length n (m + 1)).map zI⟩ 3 (0, 0)) :: (H2 ++ (b1, .cells ⟨[.int .i64 p.no, .int .i64 p.cell, .int .i64 p.noise, .int .i64 p.slab, .int .i64 p.jump, .int .i64 p.faults, .slice a p.log.length c, .slice a2 w.length c2]⟩ 87 (0, 0)) :: (b0, .cells ⟨[.int .i64 p.no, .int .i64 p.cell, .int .i64 p.noise, .int .i64 p.slab, .int .i64 p.jump, .int .i64 p.faults, .slice a p.log.length c]⟩ 24 (0, 0)) :: O)) (fun m => n ≤ m ∧ m < l.length) (fun m => l.length - m) (n) _ (Wk.refl _ _) ((by rw [hz]; first | rfl | (simp only [List.set_set]; rfl))) ?_ ?_ ?_
          · repeat' (first | exact True.intro | refine And.intro ?_ ?_ | rfl | exact congrArg (Value.int _) (by omega) | exact congrArg (fun n => Value.slice _ n _) (by (try dsimp only); omega))
          · exact ⟨Nat.le_refl _, hnl⟩
          · rintro m d ⟨hnm, hml⟩
            by_cases hil : m + 1 < l.length
            · have hwm := wOk_at hwo m
              have hem := hei (m + 1) hil
              have hgm := heg (m + 1) hil
              have hfm := hin m hml
              have hgt : (filW f l.length n (m + 1)).getD m 0 = f m := by rw [filW_get hml, if_pos ⟨hnm, by omega⟩]
              have hst : (filW f l.length n (m + 1)).set (m + 1) (f (m + 1)) = filW f l.length n (m + 2) := filW_set (fun i _ hne => by omega) (by omega)
              have hlen := filW_len (f := f) (n := l.length) (a := n) (b := m + 1)
              have hlen2 := filW_len (f := f) (n := l.length) (a := n) (b := m + 2)
              have hu := hup m hnm
              have hm1 : mid (f m) ∧ mid (f m) := by omega
              have hm2 : mid (w.getD (m + 1 - 1) default).lo ∧ mid (w.getD (m + 1 - 1) default).hi := by rw [Nat.add_sub_cancel]; omega
              repeat' (conv => whnf
                       first
                       | (((with_reducible refine CallG.rd (f := 80) (X := .agg ⟨[.int .i64 (f m), .int .i64 (f m)]⟩) ?_ ?_); (· exact e80 m n (m + 1) _b bx _ hml hnm (by omega) (List.mem_cons_self ..) (List.mem_cons_of_mem _ (List.mem_cons_self ..)))))
                       | ((with_reducible refine DrawSt.walk [0, 1, 2, 3, 4, 5, 6, 7, 8, 10, 11, 12, 13, 14, 9, 15, 16, 17, 18, 19] mixed ?_ ?_); · decide +kernel)
                       | ((with_reducible apply CallG.rd (f := 81)); · (apply GSpec.cast (sp := f81 _ _ _ _ _ _); (· (repeat' (first | with_reducible rfl | refine congrArg₂ List.cons ?_ ?_ | exact iN_lit _ | rfl))); all_goals (first | with_reducible assumption | omega | ((repeat (first | with_reducible assumption | with_reducible apply xor_lt | with_reducible apply mul_lt | with_reducible exact pw_lt _ | with_reducible exact inv_lt _ | omega)); done) | ((repeat (first | with_reducible assumption | (with_reducible apply Buf.rd; with_reducible assumption) | (with_reducible apply Rd.appL; with_reducible assumption) | (with_reducible apply Rd.appL; with_reducible apply Buf.rd; with_reducible assumption) | (with_reducible apply Rd.ofH; with_reducible assumption) | (with_reducible apply Rd.ofH1; with_reducible assumption) | with_reducible apply Rd.cons | with_reducible apply Rd.appR)); done) | decide)))
                       | ((with_reducible apply CallG.rd (f := 82)); · (apply GSpec.cast (sp := f82 _ _ _ _ ?_ ?_ _ _); (· (repeat' (first | with_reducible rfl | refine congrArg₂ List.cons ?_ ?_ | exact iN_lit _ | rfl))); all_goals (first | with_reducible assumption | omega | ((repeat (first | with_reducible assumption | with_reducible apply xor_lt | with_reducible apply mul_lt | with_reducible exact pw_lt _ | with_reducible exact inv_lt _ | omega)); done) | ((repeat (first | with_reducible assumption | (with_reducible apply Buf.rd; with_reducible assumption) | (with_reducible apply Rd.appL; with_reducible assumption) | (with_reducible apply Rd.appL; with_reducible apply Buf.rd; with_reducible assumption) | (with_reducible apply Rd.ofH; with_reducible assumption) | (with_reducible apply Rd.ofH1; with_reducible assumption) | with_reducible apply Rd.cons | with_reducible apply Rd.appR)); done) | decide)))
                       | ((with_reducible apply LoadSt.rdg (g := spV) (s := 2)); (· rfl); (· (repeat (first | with_reducible assumption | (with_reducible apply Rd.any; with_reducible assumption) | (with_reducible apply Buf.rd; with_reducible assumption) | (with_reducible apply Rd.appL; with_reducible assumption) | (with_reducible apply Rd.appL; with_reducible apply Buf.rd; with_reducible assumption) | (with_reducible apply Rd.ofH; with_reducible assumption) | (with_reducible apply Rd.ofH1; with_reducible assumption) | with_reducible apply Rd.cons | with_reducible apply Rd.appR))); (· exact fun _ => rfl); (· decide); · (first | omega | (simp only [List.length_map, List.length_append, List.length_cons, List.length_nil, List.length_take, List.length_drop, List.length_replicate, List.length_set] at *; omega)))
                       | ((with_reducible apply IdxSl.rdg (g := spV) (s := 2)); (· with_reducible assumption); (· exact fun _ => rfl); (· decide); (· rfl); (· first | with_reducible rfl | exact natL _); (· (first | omega | (simp only [List.length_map, List.length_append, List.length_cons, List.length_nil, List.length_take, List.length_drop, List.length_replicate, List.length_set] at *; omega))); · (first | omega | (simp only [List.length_map, List.length_append, List.length_cons, List.length_nil, List.length_take, List.length_drop, List.length_replicate, List.length_set] at *; omega)))
                       | (with_reducible refine NextSt.mk ?_)
                       | (with_reducible refine OnBB.tt ?_)
                       | ((with_reducible apply NW.addN); (· first | with_reducible rfl | exact natL _); (· first | with_reducible rfl | exact natL _); (· omega))
                       | ((with_reducible apply NW.subN); (· first | with_reducible rfl | exact natL _); (· first | with_reducible rfl | exact natL _); (· omega))
                       | ((with_reducible apply Cmp.yes); · first | omega | (with_reducible assumption) | (with_reducible rfl))
                       | ((with_reducible apply LoadSt.box); · (repeat (first | exact List.Mem.head _ | with_reducible apply List.mem_append_right | with_reducible apply List.mem_cons_of_mem)))
                       | ((with_reducible apply StoreSt.mapd); (· (repeat (first | exact Upd.hd | apply Upd.tl | apply Upd.app))); (· (first | exact Nat.zero_add _ | with_reducible rfl | omega | (show _ + _ * 1 = _; omega))); (· rfl); (· rfl); (· (first | omega | (simp only [List.length_map, List.length_append, List.length_cons, List.length_nil, List.length_take, List.length_drop, List.length_replicate, List.length_set] at *; omega))); · (first | exact Or.inl (Nat.le_refl _) | omega))
                       | ((with_reducible apply IdxSl.own1); (· rfl); (· first | with_reducible rfl | exact natL _); · (first | omega | (simp only [List.length_map, List.length_append, List.length_cons, List.length_nil, List.length_take, List.length_drop, List.length_replicate, List.length_set] at *; omega))))
              have hval : max ((endsV p w l).getD (m + 1) default).lo (f m + (w.getD (m + 1 - 1) default).lo) = f (m + 1) := by rw [hgm, hu, Nat.add_sub_cancel]; rfl
              rw [hval, hst]
              refine RoundFix.mk (m + 1) ?_ ?_ _ rfl (Wk.drop (by (try dsimp only); (try simp only [List.cons_append, List.nil_append]); (repeat (first | with_reducible exact List.Sublist.refl _ | with_reducible exact List.nil_sublist _ | with_reducible apply List.Sublist.cons_cons | with_reducible apply sub_app | apply List.Sublist.cons_cons | apply sub_app | with_reducible apply List.Sublist.cons | with_reducible apply sub_skip)))) ?_
              · omega
              · repeat' (first | exact True.intro | refine And.intro ?_ ?_ | rfl | exact congrArg (Value.int _) (by omega) | exact congrArg (fun n => Value.slice _ n _) (by (try dsimp only); omega))
              · exact ⟨by omega, hil⟩
            · have hme : m + 1 = l.length := by omega
              rw [hme]
              repeat' (conv => whnf
                       first
                       | (with_reducible refine NextSt.mk ?_)
                       | (with_reducible refine OnBB.ff ?_)
                       | ((with_reducible apply NW.i64); · omega)
                       | ((with_reducible apply Cmp.no); · first | omega | (with_reducible assumption)))
              refine LoopSt.fix [19, 98, 99, 100, 101, 102, 103, 104, 105, 106, 107, 108, 109, 110, 111, 112, 113, 114, 115, 116, 117, 118, 119] (fun (s : Nat) => [(19, .int .i64 ((s : Int) - 1))]) (fun s => (_b, .cells ⟨[.slice (some ⟨bx, 0, none⟩) l.length l.length]⟩ 26 (0, 0)) :: (bx, .cells ⟨(filW f l.length s l.length).map zI⟩ 3 (0, 0)) :: (H2 ++ (b1, .cells ⟨[.int .i64 p.no, .int .i64 p.cell, .int .i64 p.noise, .int .i64 p.slab, .int .i64 p.jump, .int .i64 p.faults, .slice a p.log.length c, .slice a2 w.length c2]⟩ 87 (0, 0)) :: (b0, .cells ⟨[.int .i64 p.no, .int .i64 p.cell, .int .i64 p.noise, .int .i64 p.slab, .int .i64 p.jump, .int .i64 p.faults, .slice a p.log.length c]⟩ 24 (0, 0)) :: O)) (fun s => s ≤ n) (fun s => s) (n) _ (Wk.refl _ _) (rfl) ?_ ?_ ?_
              · repeat' (first | exact True.intro | refine And.intro ?_ ?_ | rfl | exact congrArg (Value.int _) (by omega) | exact congrArg (fun n => Value.slice _ n _) (by (try dsimp only); omega))
              · exact Nat.le_refl _
              · intro s d2 hsn
                cases s with
                | zero =>
                  repeat' (conv => whnf
                           first
                           | (with_reducible refine NextSt.mk ?_)
                           | (with_reducible refine OnBB.ff ?_)
                           | ((with_reducible apply Cmp.no); · first | omega | (with_reducible assumption))
                           | ((with_reducible apply LoadSt.box); · (repeat (first | exact List.Mem.head _ | with_reducible apply List.mem_append_right | with_reducible apply List.mem_cons_of_mem))))
                  refine FinSt.new (H := [(bx, .cells ⟨(filW f l.length 0 l.length).map zI⟩ 3 (0, 0))]) (by (try dsimp only); (try simp only [List.cons_append, List.nil_append]); (repeat (first | with_reducible exact List.Sublist.refl _ | with_reducible exact List.nil_sublist _ | with_reducible apply List.Sublist.cons_cons | with_reducible apply sub_app | apply List.Sublist.cons_cons | apply sub_app | with_reducible apply List.Sublist.cons | with_reducible apply sub_skip))) ?_
                  exact ⟨_, _, rfl, Rd.own0 (List.mem_cons_self ..)⟩
                | succ i =>
                  rw [show ((i + 1 : Nat) : Int) - 1 = (i : Nat) by omega]
                  have hwm := wOk_at hwo i
                  have hgi := heg i (by omega)
                  have hfm := hin (i + 1) (by omega)
                  have hst := filW_set (f := f) (n := l.length) (a := i + 1) (b := l.length) (a' := i) (b' := l.length) (k := i) (fun j _ hne => by omega) (by omega)
                  have hlen := filW_len (f := f) (n := l.length) (a := i + 1) (b := l.length)
                  have hlen2 := filW_len (f := f) (n := l.length) (a := i) (b := l.length)
                  have hd := hdn i (by omega)
                  have hm1 : mid (f (i + 1)) ∧ mid (f (i + 1)) := by omega
                  have hm2 : mid (w.getD i default).lo ∧ mid (w.getD i default).hi := by omega
                  repeat' (conv => whnf
                           first
                           | (((with_reducible refine CallG.rd (f := 80) (X := .agg ⟨[.int .i64 (f (i + 1)), .int .i64 (f (i + 1))]⟩) ?_ ?_); (· exact e80 (i + 1) (i + 1) l.length _b bx _ (by omega) (Nat.le_refl _) (by omega) (List.mem_cons_self ..) (List.mem_cons_of_mem _ (List.mem_cons_self ..)))))
                           | ((with_reducible refine DrawSt.walk [0, 1, 2, 3, 4, 5, 6, 7, 8, 10, 11, 12, 13, 9, 14, 15, 16, 17, 18] mixed ?_ ?_); · decide +kernel)
                           | ((with_reducible apply CallG.rd (f := 81)); · (apply GSpec.cast (sp := f81 _ _ _ _ _ _); (· (repeat' (first | with_reducible rfl | refine congrArg₂ List.cons ?_ ?_ | exact iN_lit _ | rfl))); all_goals (first | with_reducible assumption | omega | ((repeat (first | with_reducible assumption | with_reducible apply xor_lt | with_reducible apply mul_lt | with_reducible exact pw_lt _ | with_reducible exact inv_lt _ | omega)); done) | ((repeat (first | with_reducible assumption | (with_reducible apply Buf.rd; with_reducible assumption) | (with_reducible apply Rd.appL; with_reducible assumption) | (with_reducible apply Rd.appL; with_reducible apply Buf.rd; with_reducible assumption) | (with_reducible apply Rd.ofH; with_reducible assumption) | (with_reducible apply Rd.ofH1; with_reducible assumption) | with_reducible apply Rd.cons | with_reducible apply Rd.appR)); done) | decide)))
                           | ((with_reducible apply CallG.rd (f := 83)); · (apply GSpec.cast (sp := f83 _ _ _ _ ?_ ?_ _ _); (· (repeat' (first | with_reducible rfl | refine congrArg₂ List.cons ?_ ?_ | exact iN_lit _ | rfl))); all_goals (first | with_reducible assumption | omega | ((repeat (first | with_reducible assumption | with_reducible apply xor_lt | with_reducible apply mul_lt | with_reducible exact pw_lt _ | with_reducible exact inv_lt _ | omega)); done) | ((repeat (first | with_reducible assumption | (with_reducible apply Buf.rd; with_reducible assumption) | (with_reducible apply Rd.appL; with_reducible assumption) | (with_reducible apply Rd.appL; with_reducible apply Buf.rd; with_reducible assumption) | (with_reducible apply Rd.ofH; with_reducible assumption) | (with_reducible apply Rd.ofH1; with_reducible assumption) | with_reducible apply Rd.cons | with_reducible apply Rd.appR)); done) | decide)))
                           | ((with_reducible apply LoadSt.rdg (g := spV) (s := 2)); (· rfl); (· (repeat (first | with_reducible assumption | (with_reducible apply Rd.any; with_reducible assumption) | (with_reducible apply Buf.rd; with_reducible assumption) | (with_reducible apply Rd.appL; with_reducible assumption) | (with_reducible apply Rd.appL; with_reducible apply Buf.rd; with_reducible assumption) | (with_reducible apply Rd.ofH; with_reducible assumption) | (with_reducible apply Rd.ofH1; with_reducible assumption) | with_reducible apply Rd.cons | with_reducible apply Rd.appR))); (· exact fun _ => rfl); (· decide); · (first | omega | (simp only [List.length_map, List.length_append, List.length_cons, List.length_nil, List.length_take, List.length_drop, List.length_replicate, List.length_set] at *; omega)))
                           | ((with_reducible apply IdxSl.rdg (g := spV) (s := 2)); (· with_reducible assumption); (· exact fun _ => rfl); (· decide); (· rfl); (· first | with_reducible rfl | exact natL _); (· (first | omega | (simp only [List.length_map, List.length_append, List.length_cons, List.length_nil, List.length_take, List.length_drop, List.length_replicate, List.length_set] at *; omega))); · (first | omega | (simp only [List.length_map, List.length_append, List.length_cons, List.length_nil, List.length_take, List.length_drop, List.length_replicate, List.length_set] at *; omega)))
                           | (with_reducible refine NextSt.mk ?_)
                           | (with_reducible refine OnBB.tt ?_)
                           | ((with_reducible apply NW.addN); (· first | with_reducible rfl | exact natL _); (· first | with_reducible rfl | exact natL _); (· omega))
                           | ((with_reducible apply NW.i64); · omega)
                           | ((with_reducible apply Cmp.yes); · first | omega | (with_reducible assumption) | (with_reducible rfl))
                           | ((with_reducible apply LoadSt.box); · (repeat (first | exact List.Mem.head _ | with_reducible apply List.mem_append_right | with_reducible apply List.mem_cons_of_mem)))
                           | ((with_reducible apply StoreSt.mapd); (· (repeat (first | exact Upd.hd | apply Upd.tl | apply Upd.app))); (· (first | exact Nat.zero_add _ | with_reducible rfl | omega | (show _ + _ * 1 = _; omega))); (· rfl); (· rfl); (· (first | omega | (simp only [List.length_map, List.length_append, List.length_cons, List.length_nil, List.length_take, List.length_drop, List.length_replicate, List.length_set] at *; omega))); · (first | exact Or.inl (Nat.le_refl _) | omega))
                           | ((with_reducible apply IdxSl.own1); (· rfl); (· first | with_reducible rfl | exact natL _); · (first | omega | (simp only [List.length_map, List.length_append, List.length_cons, List.length_nil, List.length_take, List.length_drop, List.length_replicate, List.length_set] at *; omega))))
                  have hval : max ((endsV p w l).getD i default).lo (f (i + 1) - (w.getD i default).hi) = f i := by rw [hgi, hd]; rfl
                  rw [hval, hst]
                  refine RoundFix.mk (i) ?_ ?_ _ rfl (Wk.drop (by (try dsimp only); (try simp only [List.cons_append, List.nil_append]); (repeat (first | with_reducible exact List.Sublist.refl _ | with_reducible exact List.nil_sublist _ | with_reducible apply List.Sublist.cons_cons | with_reducible apply sub_app | apply List.Sublist.cons_cons | apply sub_app | with_reducible apply List.Sublist.cons | with_reducible apply sub_skip)))) ?_
                  · omega
                  · repeat' (first | exact True.intro | refine And.intro ?_ ?_ | rfl | exact congrArg (Value.int _) (by omega) | exact congrArg (fun n => Value.slice _ n _) (by (try dsimp only); omega))
                  · omega
      · have hEV : entV p w l k = 33 := by unfold entV; rw [if_neg (fun e => e ht), if_pos ⟨hk0, hkn⟩, if_neg hal]
        have hEn : EndsR p w l = fun v H => ∃ a c, v = .tuple ⟨[.slice a (endsO p w l).length c, .bool false]⟩ ∧ RdH H a ((endsO p w l).flatMap spV) ∧ (endsO p w l).length ≤ c := by
          unfold EndsR; rw [decide_eq_false hal]
        rw [hEn] at e63
        refine GSpec.enter (fn := Tryd.f53) Tryd.func53 rfl (by kernel_rfl) ?_
        repeat' (conv => whnf
                 first
                 | (((with_reducible refine CallSt.rd (f := 62) (X := .int .i64 0) ?_ ?_); (· exact e62 _ (by (repeat (first | with_reducible assumption | (with_reducible apply Buf.rd; with_reducible assumption) | (with_reducible apply Rd.appL; with_reducible assumption) | (with_reducible apply Rd.appL; with_reducible apply Buf.rd; with_reducible assumption) | (with_reducible apply Rd.ofH; with_reducible assumption) | (with_reducible apply Rd.ofH1; with_reducible assumption) | with_reducible apply Rd.cons | with_reducible apply Rd.appR))) (by (repeat (first | with_reducible assumption | (with_reducible apply Buf.rd; with_reducible assumption) | (with_reducible apply Rd.appL; with_reducible assumption) | (with_reducible apply Rd.appL; with_reducible apply Buf.rd; with_reducible assumption) | (with_reducible apply Rd.ofH; with_reducible assumption) | (with_reducible apply Rd.ofH1; with_reducible assumption) | with_reducible apply Rd.cons | with_reducible apply Rd.appR))) (by (repeat (first | with_reducible assumption | (with_reducible apply Buf.rd; with_reducible assumption) | (with_reducible apply Rd.appL; with_reducible assumption) | (with_reducible apply Rd.appL; with_reducible apply Buf.rd; with_reducible assumption) | (with_reducible apply Rd.ofH; with_reducible assumption) | (with_reducible apply Rd.ofH1; with_reducible assumption) | with_reducible apply Rd.cons | with_reducible apply Rd.appR))))))
                 | (((with_reducible refine CallSt.new (f := 63) (R := (fun v H => ∃ a c, v = .tuple ⟨[.slice a (endsO p w l).length c, .bool false]⟩ ∧ RdH H a ((endsO p w l).flatMap spV) ∧ (endsO p w l).length ≤ c)) ?_ ?_); (· exact e63 _ (by (repeat (first | with_reducible assumption | (with_reducible apply Buf.rd; with_reducible assumption) | (with_reducible apply Rd.appL; with_reducible assumption) | (with_reducible apply Rd.appL; with_reducible apply Buf.rd; with_reducible assumption) | (with_reducible apply Rd.ofH; with_reducible assumption) | (with_reducible apply Rd.ofH1; with_reducible assumption) | with_reducible apply Rd.cons | with_reducible apply Rd.appR))) (by (repeat (first | with_reducible assumption | (with_reducible apply Buf.rd; with_reducible assumption) | (with_reducible apply Rd.appL; with_reducible assumption) | (with_reducible apply Rd.appL; with_reducible apply Buf.rd; with_reducible assumption) | (with_reducible apply Rd.ofH; with_reducible assumption) | (with_reducible apply Rd.ofH1; with_reducible assumption) | with_reducible apply Rd.cons | with_reducible apply Rd.appR))) (by (repeat (first | with_reducible assumption | (with_reducible apply Buf.rd; with_reducible assumption) | (with_reducible apply Rd.appL; with_reducible assumption) | (with_reducible apply Rd.appL; with_reducible apply Buf.rd; with_reducible assumption) | (with_reducible apply Rd.ofH; with_reducible assumption) | (with_reducible apply Rd.ofH1; with_reducible assumption) | with_reducible apply Rd.cons | with_reducible apply Rd.appR)))); rintro _ H2 ⟨ea, ec, rfl, er, el⟩))
                 | (with_reducible refine NextSt.mk ?_)
                 | (with_reducible refine OnBB.tt ?_)
                 | (with_reducible refine OnBB.ff ?_)
                 | ((with_reducible apply Cmp.no); · first | omega | (with_reducible assumption))
                 | ((with_reducible apply LoadSt.box); · (repeat (first | exact List.Mem.head _ | with_reducible apply List.mem_append_right | with_reducible apply List.mem_cons_of_mem)))
                 | ((with_reducible apply LoadSt.boxAgg); · (repeat (first | exact List.Mem.head _ | with_reducible apply List.mem_append_right | with_reducible apply List.mem_cons_of_mem)))
                 | ((with_reducible refine AllocSt.mk ?_); intro _b _hb _hbO)
                 | ((with_reducible apply StoreSt.box); (· (repeat (first | exact Upd.hd | apply Upd.tl | apply Upd.app))); (· rfl); (· rfl); (· rfl)))
        conv => whnf
        refine FinSt.new (H := []) (by (try dsimp only); (try simp only [List.cons_append, List.nil_append]); (repeat (first | with_reducible exact List.Sublist.refl _ | with_reducible exact List.nil_sublist _ | with_reducible apply List.Sublist.cons_cons | with_reducible apply sub_app | apply List.Sublist.cons_cons | apply sub_app | with_reducible apply List.Sublist.cons | with_reducible apply sub_skip))) ?_
        exact WitR.none hEV (by decide)
    · have hEV : entV p w l k = 1 := by unfold entV; rw [if_neg (fun e => e ht), if_neg hk]
      refine GSpec.enter (fn := Tryd.f53) Tryd.func53 rfl (by kernel_rfl) ?_
      repeat' (conv => whnf
               first
               | (((with_reducible refine CallSt.rd (f := 62) (X := .int .i64 0) ?_ ?_); (· exact e62 _ (by (repeat (first | with_reducible assumption | (with_reducible apply Buf.rd; with_reducible assumption) | (with_reducible apply Rd.appL; with_reducible assumption) | (with_reducible apply Rd.appL; with_reducible apply Buf.rd; with_reducible assumption) | (with_reducible apply Rd.ofH; with_reducible assumption) | (with_reducible apply Rd.ofH1; with_reducible assumption) | with_reducible apply Rd.cons | with_reducible apply Rd.appR))) (by (repeat (first | with_reducible assumption | (with_reducible apply Buf.rd; with_reducible assumption) | (with_reducible apply Rd.appL; with_reducible assumption) | (with_reducible apply Rd.appL; with_reducible apply Buf.rd; with_reducible assumption) | (with_reducible apply Rd.ofH; with_reducible assumption) | (with_reducible apply Rd.ofH1; with_reducible assumption) | with_reducible apply Rd.cons | with_reducible apply Rd.appR))) (by (repeat (first | with_reducible assumption | (with_reducible apply Buf.rd; with_reducible assumption) | (with_reducible apply Rd.appL; with_reducible assumption) | (with_reducible apply Rd.appL; with_reducible apply Buf.rd; with_reducible assumption) | (with_reducible apply Rd.ofH; with_reducible assumption) | (with_reducible apply Rd.ofH1; with_reducible assumption) | with_reducible apply Rd.cons | with_reducible apply Rd.appR))))))
               | (with_reducible refine NextSt.mk ?_)
               | (with_reducible refine OnBB.tt ?_)
               | (with_reducible refine OnBB.ff ?_)
               | ((with_reducible apply Cmp.yes); · first | omega | (with_reducible assumption) | (with_reducible rfl))
               | ((with_reducible apply Cmp.no); · first | omega | (with_reducible assumption))
               | ((with_reducible apply LoadSt.box); · (repeat (first | exact List.Mem.head _ | with_reducible apply List.mem_append_right | with_reducible apply List.mem_cons_of_mem)))
               | ((with_reducible apply LoadSt.boxAgg); · (repeat (first | exact List.Mem.head _ | with_reducible apply List.mem_append_right | with_reducible apply List.mem_cons_of_mem)))
               | ((with_reducible refine AllocSt.mk ?_); intro _b _hb _hbO)
               | ((with_reducible refine Cmp.mk ?_ ?_) <;> intro _hc))
      all_goals
        conv => whnf
        refine FinSt.new (H := []) (by (try dsimp only); (try simp only [List.cons_append, List.nil_append]); (repeat (first | with_reducible exact List.Sublist.refl _ | with_reducible exact List.nil_sublist _ | with_reducible apply List.Sublist.cons_cons | with_reducible apply sub_app | apply List.Sublist.cons_cons | apply sub_app | with_reducible apply List.Sublist.cons | with_reducible apply sub_skip))) ?_
        exact WitR.none hEV (by decide)
  · have hEV : entV p w l k = toldV p w l := by unfold entV; rw [if_pos ht]
    refine GSpec.enter (fn := Tryd.f53) Tryd.func53 rfl (by kernel_rfl) ?_
    repeat' (conv => whnf
             first
             | (((with_reducible refine CallSt.rd (f := 62) (X := .int .i64 (toldV p w l)) ?_ ?_); (· exact e62 _ (by (repeat (first | with_reducible assumption | (with_reducible apply Buf.rd; with_reducible assumption) | (with_reducible apply Rd.appL; with_reducible assumption) | (with_reducible apply Rd.appL; with_reducible apply Buf.rd; with_reducible assumption) | (with_reducible apply Rd.ofH; with_reducible assumption) | (with_reducible apply Rd.ofH1; with_reducible assumption) | with_reducible apply Rd.cons | with_reducible apply Rd.appR))) (by (repeat (first | with_reducible assumption | (with_reducible apply Buf.rd; with_reducible assumption) | (with_reducible apply Rd.appL; with_reducible assumption) | (with_reducible apply Rd.appL; with_reducible apply Buf.rd; with_reducible assumption) | (with_reducible apply Rd.ofH; with_reducible assumption) | (with_reducible apply Rd.ofH1; with_reducible assumption) | with_reducible apply Rd.cons | with_reducible apply Rd.appR))) (by (repeat (first | with_reducible assumption | (with_reducible apply Buf.rd; with_reducible assumption) | (with_reducible apply Rd.appL; with_reducible assumption) | (with_reducible apply Rd.appL; with_reducible apply Buf.rd; with_reducible assumption) | (with_reducible apply Rd.ofH; with_reducible assumption) | (with_reducible apply Rd.ofH1; with_reducible assumption) | with_reducible apply Rd.cons | with_reducible apply Rd.appR))))))
             | (with_reducible refine NextSt.mk ?_)
             | (with_reducible refine OnBB.tt ?_)
             | ((with_reducible apply Cmp.yes); · first | omega | (with_reducible assumption) | (with_reducible rfl))
             | ((with_reducible apply LoadSt.boxAgg); · (repeat (first | exact List.Mem.head _ | with_reducible apply List.mem_append_right | with_reducible apply List.mem_cons_of_mem)))
             | ((with_reducible refine AllocSt.mk ?_); intro _b _hb _hbO))
    conv => whnf
    refine FinSt.new (H := []) (by (try dsimp only); (try simp only [List.cons_append, List.nil_append]); (repeat (first | with_reducible exact List.Sublist.refl _ | with_reducible exact List.nil_sublist _ | with_reducible apply List.Sublist.cons_cons | with_reducible apply sub_app | apply List.Sublist.cons_cons | apply sub_app | with_reducible apply List.Sublist.cons | with_reducible apply sub_skip))) ?_
    exact WitR.none hEV ht
end Go.Proofs.YtaahjlhfmkjefaaDoor
