/- Functions of the program: Possible, Hull, Sure, Print. -/
import Derived.Test.YtaahjlhfmkjefaaGreatDoorMg
set_option linter.unusedVariables false
set_option linter.unusedSimpArgs false
set_option linter.unusedSectionVars false
/- What is possible at an entry; the hull of it. -/
namespace Go.Proofs.YtaahjlhfmkjefaaGreatDoor
open Go Go.Gv
set_option maxRecDepth 100000
set_option maxHeartbeats 16000000
set_option linter.unusedSimpArgs false
set_option linter.unusedVariables false
/-- The ends of an entry's load in each case. -/
def posS (p : Pl) (w : List Sp) (k : Int) (ls : List (List Int)) : List Sp := ls.map fun l => endI p w l k.toNat
def posL (p : Pl) (w : List Sp) (k : Int) : List Sp := if entE p w k = 0 then unitedV (posS p w k (remV p w)) else []
def PosR (p : Pl) (w : List Sp) (k : Int) (v : Value) (H : Hp) : Prop := ∃ x, v = .tuple ⟨[x, .int .i64 (entE p w k)]⟩ ∧ LsR spV (posL p w k) x H
theorem LsR.nil' : LsR spV [] (.slice none 0 0) [] := ⟨none, 0, rfl, Rd.nil, Nat.le_refl 0⟩
theorem ent_ok {p : Pl} {w : List Sp} {k : Int} (h : entE p w k = 0) : tellV p w = 0 ∧ 0 ≤ k ∧ k < p.log.length ∧ (remV p w).length ≤ 64 := by
  unfold entE at h
  split at h
  · rename_i h1; exact absurd h h1
  · rename_i h1
    have h1 : tellV p w = 0 := Classical.not_not.1 h1
    split at h
    · cases h
    · rename_i h2
      unfold casesE at h
      rw [if_neg (fun e => e h1)] at h
      split at h
      · cases h
      · rename_i h3
        exact ⟨h1, by omega, by omega, by omega⟩
theorem gS_at {H : Hp} {ls : List (List Int)} {vs : List (Option Addr × Nat × Nat)} (h : OutT H ls vs) {i : Nat} (hi : i < ls.length) : ∃ a c, vs.getD i default = (a, (ls.getD i []).length, c) ∧ RdH H a ((ls.getD i []).map zI) := by
  obtain ⟨h1, h2, -⟩ := h.2 i hi
  cases e : vs.getD i default with
  | mk a r =>
    obtain ⟨n, c⟩ := r
    rw [e] at h1 h2
    simp only at h1 h2
    subst h1
    exact ⟨a, c, rfl, h2⟩
theorem remV_at {p : Pl} {w : List Sp} (hp : pOk p) {i : Nat} (hi : i < (remV p w).length) : caseOk p ((remV p w).getD i []) ∧ alive p w ((remV p w).getD i []) := by
  refine (remV_mem hp.1.2.2.2.2.2.1.1).1 ?_
  rw [List.getD_eq_getElem?_getD, List.getElem?_eq_getElem hi]
  exact List.getElem_mem hi
theorem posS_step {p : Pl} {w : List Sp} {k : Int} {ls : List (List Int)} {i : Nat} (h : i < ls.length) : posS p w k (ls.take (i + 1)) = posS p w k (ls.take i) ++ [endI p w (ls.getD i []) k.toNat] := by
  unfold posS
  rw [List.take_add_one, List.getElem?_eq_getElem h, List.map_append, List.getD_eq_getElem?_getD, List.getElem?_eq_getElem h]; rfl
theorem posS_in {p : Pl} {w : List Sp} {k : Int} (hp : pOk p) (hw : wOk p w) (hk : 0 ≤ k ∧ k < p.log.length) : inW (posS p w k (remV p w)) := fun x hx => by
  obtain ⟨l, hl, rfl⟩ := List.mem_map.1 hx
  have hc := (remV_mem hp.1.2.2.2.2.2.1.1).1 hl
  have hlen := hc.1.1
  exact end_in hp hw hc.2 hlen (by omega)
theorem f26 (p : Pl) (w : List Sp) (k : Int) (a a2 : Option Addr) (c c2 : Nat) (hl : p.log.length ≤ 9223372036854775807) (hw : w.length ≤ 9223372036854775807) (h : View) (O : Hp) (hr : Rd h O a (p.log.flatMap shV)) (hr2 : Rd h O a2 (w.flatMap spV)) :
    GSpec Tryz.prog 35 [.agg ⟨plV p a c⟩, .slice a2 w.length c2, .int .i64 k] h O (New O (PosR p w k)) := by
  have e65 := fun O hr hr2 => f65 p w k a a2 c c2 hl hw h O hr hr2
  show GSpec Tryz.prog 35 [.agg ⟨[.int .i64 p.no, .int .i64 p.cell, .int .i64 p.noise, .int .i64 p.slab, .int .i64 p.jump, .int .i64 p.faults, .slice a p.log.length c]⟩, _, _] h O _
  by_cases he : entE p w k = 0
  · obtain ⟨ht, hk0, hkn, hlen⟩ := ent_ok he
    obtain ⟨hp, hwo⟩ := tell_ok ht
    have hpl := hp.1.2.2.2.2.2.2
    obtain ⟨n, hn⟩ : ∃ n : Nat, k = (n : Nat) := ⟨k.toNat, by omega⟩
    have hL : entL p w k = remV p w := if_pos he
    have hP : posL p w k = unitedV (posS p w k (remV p w)) := if_pos he
    have hEnt : EntR p w k = fun v H => ∃ x, v = .tuple ⟨[x, .int .i64 0]⟩ ∧ LLR (remV p w) x H := by unfold EntR; rw [he, hL]
    rw [hEnt] at e65
    have hin := posS_in hp hwo (k := k) ⟨hk0, hkn⟩
    have hplen : (posS p w k (remV p w)).length = (remV p w).length := List.length_map _
    have e66 := fun C hC => f66 (posS p w k (remV p w)) hin C hC (by omega) h
    have e63 := fun i hi a3 c3 O hr hr2 hr3 => f63 p w ((remV p w).getD i []) a a2 a3 c c2 c3 hp hwo (remV_at hp hi).1.1 h O hr hr2 hr3
    refine GSpec.enter (fn := Tryz.f35) Tryz.func35 rfl (by kernel_rfl) ?_
    repeat' (conv => whnf
             first
             | (((with_reducible refine CallSt.new (f := 34) (R := (fun v H => ∃ x, v = .tuple ⟨[x, .int .i64 0]⟩ ∧ LLR (remV p w) x H)) ?_ ?_); (· exact e65 _ (Rd.cons hr) (Rd.cons hr2)); rintro _ H1 ⟨_, rfl, la, lc, lvs, rfl, lr, lt, ll⟩))
             | (with_reducible refine NextSt.mk ?_)
             | (with_reducible refine OnBB.ff ?_)
             | ((with_reducible apply Cmp.no); · first | omega | (with_reducible assumption))
             | ((with_reducible apply LoadSt.boxAgg); · (repeat (first | exact List.Mem.head _ | with_reducible apply List.mem_append_right | with_reducible apply List.mem_cons_of_mem)))
             | ((with_reducible refine AllocSt.mk ?_); intro _b _hb _hbO))
    have hvl := lt.1
    obtain ⟨bx, hbx⟩ : ∃ x, x = _b := ⟨_, rfl⟩
    subst hbx
    refine LoopSt.fix [10, 12, 13, 14, 27, 28, 29, 30, 31, 32, 33, 34, 35, 36, 37, 38, 39, 40, 41, 42, 43, 44, 45, 46, 47, 48] (fun ((i, C) : Nat × Buf) => [(10, .slice C.a (posS p w k ((remV p w).take i)).length C.cap), (27, iN i)]) (fun (i, C) => C.hp 50 ((posS p w k ((remV p w).take i)).flatMap spV) ++ (H1 ++ ((bx, .cells ⟨[.int .i64 p.no, .int .i64 p.cell, .int .i64 p.noise, .int .i64 p.slab, .int .i64 p.jump, .int .i64 p.faults, .slice a p.log.length c]⟩ 24 (0, 0)) :: O))) (fun (i, C) => i ≤ (remV p w).length ∧ C.ok 2 ((posS p w k ((remV p w).take i)).flatMap spV) (posS p w k ((remV p w).take i)).length) (fun (i, C) => (remV p w).length - i) ((0, Buf.nil)) _ (Wk.refl _ _) (rfl) ?_ ?_ ?_
    · repeat' (first | exact True.intro | refine And.intro ?_ ?_ | rfl | exact congrArg (Value.int _) (by omega) | exact congrArg (fun n => Value.slice _ n _) (by (try dsimp only); omega))
    · exact ⟨Nat.zero_le _, Buf.nil_ok 2⟩
    · rintro ⟨i, C⟩ d ⟨hi, hC⟩
      dsimp only at hi hC ⊢
      by_cases hil : i < (remV p w).length
      · obtain ⟨a3, c3, hvi, hri⟩ := gS_at lt hil
        obtain ⟨hco, hal⟩ := remV_at hp hil
        have hst := posS_step (p := p) (w := w) (k := k) hil
        have e63i := e63 i hil a3 c3
        have hends : endsO p w ((remV p w).getD i []) = endsV p w ((remV p w).getD i []) := if_pos hal
        have hEn : EndsR p w ((remV p w).getD i []) = fun v H => ∃ a c, v = .tuple ⟨[.slice a (endsV p w ((remV p w).getD i [])).length c, .bool true]⟩ ∧ RdH H a ((endsV p w ((remV p w).getD i [])).flatMap spV) ∧ (endsV p w ((remV p w).getD i [])).length ≤ c := by
          unfold EndsR; rw [hends, decide_eq_true hal]
        rw [hEn] at e63i
        have hel := endsV_len p w ((remV p w).getD i [])
        have hcl := hco.1
        have heg : (endsV p w ((remV p w).getD i [])).getD n default = endI p w ((remV p w).getD i []) k.toNat := by rw [hn, Int.toNat_natCast]; exact endsV_get (by omega)
        have hpn : (posS p w k ((remV p w).take i)).length = i := by unfold posS; rw [List.length_map, List.length_take]; omega
        generalize hM : posS p w k ((remV p w).take i) = M at *
        generalize hM1 : posS p w k ((remV p w).take (i + 1)) = M1 at *
        generalize endI p w ((remV p w).getD i []) k.toNat = y at hst heg
        have hm1 : M1.length = M.length + 1 := by rw [hst, List.length_append]; rfl
        subst hn
        repeat' (conv => whnf
                 first
                 | (((with_reducible apply LoadSt.rdm (g := gS)); (· (repeat (first | with_reducible assumption | (with_reducible apply Buf.rd; with_reducible assumption) | (with_reducible apply Rd.appL; with_reducible assumption) | (with_reducible apply Rd.appL; with_reducible apply Buf.rd; with_reducible assumption) | (with_reducible apply Rd.ofH; with_reducible assumption) | (with_reducible apply Rd.ofH1; with_reducible assumption) | with_reducible apply Rd.cons | with_reducible apply Rd.appR))); (· omega)); rw [hvi]; unfold gS)
                 | (((with_reducible refine CallSt.new (f := 30) (R := (fun v H => ∃ a c, v = .tuple ⟨[.slice a (endsV p w ((remV p w).getD i [])).length c, .bool true]⟩ ∧ RdH H a ((endsV p w ((remV p w).getD i [])).flatMap spV) ∧ (endsV p w ((remV p w).getD i [])).length ≤ c)) ?_ ?_); (· exact e63i _ (by (repeat (first | with_reducible assumption | (with_reducible apply Buf.rd; with_reducible assumption) | (with_reducible apply Rd.appL; with_reducible assumption) | (with_reducible apply Rd.appL; with_reducible apply Buf.rd; with_reducible assumption) | (with_reducible apply Rd.ofH; with_reducible assumption) | (with_reducible apply Rd.ofH1; with_reducible assumption) | with_reducible apply Rd.cons | with_reducible apply Rd.appR))) (by (repeat (first | with_reducible assumption | (with_reducible apply Buf.rd; with_reducible assumption) | (with_reducible apply Rd.appL; with_reducible assumption) | (with_reducible apply Rd.appL; with_reducible apply Buf.rd; with_reducible assumption) | (with_reducible apply Rd.ofH; with_reducible assumption) | (with_reducible apply Rd.ofH1; with_reducible assumption) | with_reducible apply Rd.cons | with_reducible apply Rd.appR))) (by (repeat (first | with_reducible assumption | (with_reducible apply Buf.rd; with_reducible assumption) | (with_reducible apply Rd.appL; with_reducible assumption) | (with_reducible apply Rd.appL; with_reducible apply Buf.rd; with_reducible assumption) | (with_reducible apply Rd.ofH; with_reducible assumption) | (with_reducible apply Rd.ofH1; with_reducible assumption) | with_reducible apply Rd.cons | with_reducible apply Rd.appR)))); rintro _ H2 ⟨ea, ec, rfl, er, el⟩))
                 | (((apply AppSt.litm (g := spV) (x := (endsV p w ((remV p w).getD i [])).getD n default) (s := 2) (z := .agg ⟨[.int .i64 0, .int .i64 0]⟩)); (· (repeat (first | with_reducible exact Loc.hd | with_reducible exact Loc.last | with_reducible exact Loc.one | with_reducible apply Loc.tl | with_reducible apply Loc.skip))); (· exact hC); (· (repeat (first | exact List.Mem.head _ | with_reducible apply List.mem_append_right | with_reducible apply List.mem_cons_of_mem))); (· rfl); (· rfl); (· rfl); (· rfl); (· rfl); (· rfl); (· rfl); (· (show _ * 16 ≤ _; omega)); (· omega); intro C1 hC1); rw [heg, ← hst] at hC1 ⊢)
                 | ((with_reducible apply LoadSt.rdg (g := spV) (s := 2)); (· rfl); (· (repeat (first | with_reducible assumption | (with_reducible apply Rd.any; with_reducible assumption) | (with_reducible apply Buf.rd; with_reducible assumption) | (with_reducible apply Rd.appL; with_reducible assumption) | (with_reducible apply Rd.appL; with_reducible apply Buf.rd; with_reducible assumption) | (with_reducible apply Rd.ofH; with_reducible assumption) | (with_reducible apply Rd.ofH1; with_reducible assumption) | with_reducible apply Rd.cons | with_reducible apply Rd.appR))); (· exact fun _ => rfl); (· decide); · (first | omega | (simp only [List.length_map, List.length_append, List.length_cons, List.length_nil, List.length_take, List.length_drop, List.length_replicate, List.length_set] at *; omega)))
                 | ((with_reducible apply IdxSl.rdg (g := spV) (s := 2)); (· with_reducible assumption); (· exact fun _ => rfl); (· decide); (· rfl); (· first | with_reducible rfl | exact natL _); (· (first | omega | (simp only [List.length_map, List.length_append, List.length_cons, List.length_nil, List.length_take, List.length_drop, List.length_replicate, List.length_set] at *; omega))); · (first | omega | (simp only [List.length_map, List.length_append, List.length_cons, List.length_nil, List.length_take, List.length_drop, List.length_replicate, List.length_set] at *; omega)))
                 | (with_reducible refine NextSt.mk ?_)
                 | (with_reducible refine OnBB.tt ?_)
                 | ((with_reducible apply NW.addN); (· first | with_reducible rfl | exact natL _); (· first | with_reducible rfl | exact natL _); (· omega))
                 | ((with_reducible apply Cmp.yes); · first | omega | (with_reducible assumption) | (with_reducible rfl))
                 | ((with_reducible apply LoadSt.boxAgg); · (repeat (first | exact List.Mem.head _ | with_reducible apply List.mem_append_right | with_reducible apply List.mem_cons_of_mem)))
                 | ((with_reducible refine AllocSt.mk ?_); intro _b _hb _hbO)
                 | ((with_reducible apply IdxSl.rd1); (· with_reducible assumption); (· rfl); (· first | with_reducible rfl | exact natL _); (· (first | omega | (simp only [List.length_map, List.length_append, List.length_cons, List.length_nil, List.length_take, List.length_drop, List.length_replicate, List.length_set] at *; omega))); · (first | omega | (simp only [List.length_map, List.length_append, List.length_cons, List.length_nil, List.length_take, List.length_drop, List.length_replicate, List.length_set] at *; omega))))
        rw [← hm1] at hC1
        subst hM1
        refine RoundFix.mk ((i + 1, C1)) ?_ ?_ _ rfl (Wk.drop (by (try dsimp only); (try simp only [List.cons_append, List.nil_append]); (repeat (first | with_reducible exact List.Sublist.refl _ | with_reducible exact List.nil_sublist _ | with_reducible apply List.Sublist.cons_cons | with_reducible apply sub_app | apply List.Sublist.cons_cons | apply sub_app | with_reducible apply List.Sublist.cons | with_reducible apply sub_skip)))) ?_
        · dsimp only; omega
        · repeat' (first | exact True.intro | refine And.intro ?_ ?_ | exact congrArg (fun n => Value.slice C1.a n C1.cap) hm1.symm | rfl | exact congrArg (Value.int _) (by omega) | exact congrArg (fun n => Value.slice _ n _) (by (try dsimp only); omega))
        · exact ⟨hil, hC1⟩
      · have : i = (remV p w).length := by omega
        subst this
        rw [List.take_length] at hC ⊢
        repeat' (conv => whnf
                 first
                 | (((apply CallSt.loc (f := 58) (H := C.hp 50 ((posS p w k (remV p w)).flatMap spV))); (· (repeat (first | with_reducible exact Loc.hd | with_reducible exact Loc.last | with_reducible exact Loc.one | with_reducible apply Loc.tl | with_reducible apply Loc.skip))); (· exact e66 C hC); rintro _ H3 ⟨ua, uc, rfl, hur, hue⟩))
                 | (with_reducible refine NextSt.mk ?_)
                 | (with_reducible refine OnBB.ff ?_)
                 | ((with_reducible apply Cmp.no); · first | omega | (with_reducible assumption)))
        conv => whnf
        refine FinSt.new (H := H3) (by (try dsimp only); (try simp only [List.cons_append, List.nil_append]); (repeat (first | with_reducible exact List.Sublist.refl _ | with_reducible exact List.nil_sublist _ | with_reducible apply List.Sublist.cons_cons | with_reducible apply sub_app | apply List.Sublist.cons_cons | apply sub_app | with_reducible apply List.Sublist.cons | with_reducible apply sub_skip))) ?_
        exact ⟨_, by rw [he], by rw [hP]; exact ⟨ua, uc, rfl, hur, hue⟩⟩
  · have hP : posL p w k = [] := if_neg he
    refine GSpec.enter (fn := Tryz.f35) Tryz.func35 rfl (by kernel_rfl) ?_
    repeat' (conv => whnf
             first
             | (((with_reducible refine CallSt.new (f := 34) (R := (EntR p w k)) ?_ ?_); (· exact e65 _ (Rd.cons hr) (Rd.cons hr2)); rintro _ H1 ⟨lx, rfl, hlx⟩))
             | (with_reducible refine NextSt.mk ?_)
             | (with_reducible refine OnBB.tt ?_)
             | ((with_reducible apply Cmp.yes); · first | omega | (with_reducible assumption) | (with_reducible rfl))
             | ((with_reducible apply LoadSt.boxAgg); · (repeat (first | exact List.Mem.head _ | with_reducible apply List.mem_append_right | with_reducible apply List.mem_cons_of_mem)))
             | ((with_reducible refine AllocSt.mk ?_); intro _b _hb _hbO))
    conv => whnf
    refine FinSt.new (H := []) (by (try dsimp only); (try simp only [List.cons_append, List.nil_append]); (repeat (first | with_reducible exact List.Sublist.refl _ | with_reducible exact List.nil_sublist _ | with_reducible apply List.Sublist.cons_cons | with_reducible apply sub_app | apply List.Sublist.cons_cons | apply sub_app | with_reducible apply List.Sublist.cons | with_reducible apply sub_skip))) ?_
    exact ⟨_, rfl, by rw [hP]; exact LsR.nil'⟩
theorem pos_in (p : Pl) (w : List Sp) (k : Int) : inW (posL p w k) ∧ (posL p w k).length ≤ 32769 := by
  unfold posL
  split
  · rename_i he
    obtain ⟨ht, hk0, hkn, hlen⟩ := ent_ok he
    obtain ⟨hp, hwo⟩ := tell_ok ht
    exact united_in (posS_in hp hwo ⟨hk0, hkn⟩)
  · exact ⟨fun x hx => (by cases hx), by simp⟩
/-- The least and the greatest of what is possible. -/
def hullE (p : Pl) (w : List Sp) (k : Int) : Int := if entE p w k ≠ 0 then entE p w k else if (posL p w k).length = 0 then 33 else 0
def hullX (p : Pl) (w : List Sp) (k : Int) : Sp := if (posL p w k).length = 0 then ⟨0, 0⟩ else ⟨((posL p w k).getD 0 default).lo, ((posL p w k).getD ((posL p w k).length - 1) default).hi⟩
def hullT (p : Pl) (w : List Sp) (k : Int) : Value := .tuple ⟨[.agg ⟨spV (hullX p w k)⟩, .int .i64 (hullE p w k)]⟩
theorem f28 (p : Pl) (w : List Sp) (k : Int) (a a2 : Option Addr) (c c2 : Nat) (hl : p.log.length ≤ 9223372036854775807) (hw : w.length ≤ 9223372036854775807) (h : View) (O : Hp) (hr : Rd h O a (p.log.flatMap shV)) (hr2 : Rd h O a2 (w.flatMap spV)) :
    GSpec Tryz.prog 16 [.agg ⟨plV p a c⟩, .slice a2 w.length c2, .int .i64 k] h O (Ret O (hullT p w k)) := by
  have e26 := fun O hr hr2 => f26 p w k a a2 c c2 hl hw h O hr hr2
  have hpi := pos_in p w k
  show GSpec Tryz.prog 16 [.agg ⟨[.int .i64 p.no, .int .i64 p.cell, .int .i64 p.noise, .int .i64 p.slab, .int .i64 p.jump, .int .i64 p.faults, .slice a p.log.length c]⟩, _, _] h O _
  by_cases he : entE p w k = 0
  · by_cases hz : (posL p w k).length = 0
    · have hE : hullE p w k = 33 := (if_neg (fun e => e he)).trans (if_pos hz)
      have hX : hullX p w k = ⟨0, 0⟩ := if_pos hz
      unfold hullT
      rw [hE, hX]
      refine GSpec.enter (fn := Tryz.f16) Tryz.func16 rfl (by kernel_rfl) ?_
      repeat' (conv => whnf
               first
               | (((with_reducible refine CallSt.new (f := 35) (R := (PosR p w k)) ?_ ?_); (· exact e26 _ (Rd.cons (Rd.cons hr)) (Rd.cons (Rd.cons hr2))); rintro _ H1 ⟨_, rfl, la, lc, rfl, lr, ll⟩))
               | (with_reducible refine NextSt.mk ?_)
               | (with_reducible refine OnBB.tt ?_)
               | (with_reducible refine OnBB.ff ?_)
               | ((with_reducible apply Cmp.yes); · first | omega | (with_reducible assumption) | (with_reducible rfl))
               | ((with_reducible apply Cmp.no); · first | omega | (with_reducible assumption))
               | ((with_reducible apply LoadSt.boxAgg); · (repeat (first | exact List.Mem.head _ | with_reducible apply List.mem_append_right | with_reducible apply List.mem_cons_of_mem)))
               | ((with_reducible refine AllocSt.mk ?_); intro _b _hb _hbO)
               | ((with_reducible apply StoreSt.box); (· (repeat (first | exact Upd.hd | apply Upd.tl | apply Upd.app))); (· rfl); (· rfl); (· rfl)))
      conv => whnf
      refine FinSt.ret (by (try dsimp only); (try simp only [List.cons_append, List.nil_append]); (repeat (first | with_reducible exact List.Sublist.refl _ | with_reducible exact List.nil_sublist _ | with_reducible apply List.Sublist.cons_cons | with_reducible apply sub_app | apply List.Sublist.cons_cons | apply sub_app | with_reducible apply List.Sublist.cons | with_reducible apply sub_skip))) ?_
      rfl
    · have hE : hullE p w k = 0 := (if_neg (fun e => e he)).trans (if_neg hz)
      have hX : hullX p w k = ⟨((posL p w k).getD 0 default).lo, ((posL p w k).getD ((posL p w k).length - 1) default).hi⟩ := if_neg hz
      unfold hullT
      rw [hE, hX]
      refine GSpec.enter (fn := Tryz.f16) Tryz.func16 rfl (by kernel_rfl) ?_
      repeat' (conv => whnf
               first
               | (((with_reducible refine CallSt.new (f := 35) (R := (PosR p w k)) ?_ ?_); (· exact e26 _ (Rd.cons (Rd.cons hr)) (Rd.cons (Rd.cons hr2))); rintro _ H1 ⟨_, rfl, la, lc, rfl, lr, ll⟩))
               | ((with_reducible refine DrawSt.walk [0, 1, 2, 3, 4, 5, 6, 7, 8, 9, 10, 11, 12, 13] mixed ?_ ?_); · decide +kernel)
               | ((with_reducible apply LoadSt.rdf (g := spV) (s := 2)); (· (repeat (first | with_reducible assumption | (with_reducible apply Rd.any; with_reducible assumption) | (with_reducible apply Buf.rd; with_reducible assumption) | (with_reducible apply Rd.appL; with_reducible assumption) | (with_reducible apply Rd.appL; with_reducible apply Buf.rd; with_reducible assumption) | (with_reducible apply Rd.ofH; with_reducible assumption) | (with_reducible apply Rd.ofH1; with_reducible assumption) | with_reducible apply Rd.cons | with_reducible apply Rd.appR))); (· exact fun _ => rfl); (· (first | omega | (simp only [List.length_map, List.length_append, List.length_cons, List.length_nil, List.length_take, List.length_drop, List.length_replicate, List.length_set] at *; omega))); (· decide))
               | ((with_reducible apply IdxSl.rdg (g := spV) (s := 2)); (· with_reducible assumption); (· exact fun _ => rfl); (· decide); (· rfl); (· first | with_reducible rfl | exact natL _); (· (first | omega | (simp only [List.length_map, List.length_append, List.length_cons, List.length_nil, List.length_take, List.length_drop, List.length_replicate, List.length_set] at *; omega))); · (first | omega | (simp only [List.length_map, List.length_append, List.length_cons, List.length_nil, List.length_take, List.length_drop, List.length_replicate, List.length_set] at *; omega)))
               | (with_reducible refine NextSt.mk ?_)
               | (with_reducible refine OnBB.ff ?_)
               | ((with_reducible apply NW.subN); (· first | with_reducible rfl | exact natL _); (· first | with_reducible rfl | exact natL _); (· omega))
               | ((with_reducible apply Cmp.no); · first | omega | (with_reducible assumption))
               | ((with_reducible apply LoadSt.boxAgg); · (repeat (first | exact List.Mem.head _ | with_reducible apply List.mem_append_right | with_reducible apply List.mem_cons_of_mem)))
               | ((with_reducible refine AllocSt.mk ?_); intro _b _hb _hbO)
               | ((with_reducible apply StoreSt.box); (· (repeat (first | exact Upd.hd | apply Upd.tl | apply Upd.app))); (· rfl); (· rfl); (· rfl)))
      conv => whnf
      refine FinSt.ret (by (try dsimp only); (try simp only [List.cons_append, List.nil_append]); (repeat (first | with_reducible exact List.Sublist.refl _ | with_reducible exact List.nil_sublist _ | with_reducible apply List.Sublist.cons_cons | with_reducible apply sub_app | apply List.Sublist.cons_cons | apply sub_app | with_reducible apply List.Sublist.cons | with_reducible apply sub_skip))) ?_
      rfl
  · have hE : hullE p w k = entE p w k := if_pos he
    have hX : hullX p w k = ⟨0, 0⟩ := if_pos (by rw [show posL p w k = [] from if_neg he]; rfl)
    unfold hullT
    rw [hE, hX]
    refine GSpec.enter (fn := Tryz.f16) Tryz.func16 rfl (by kernel_rfl) ?_
    repeat' (conv => whnf
             first
             | (((with_reducible refine CallSt.new (f := 35) (R := (PosR p w k)) ?_ ?_); (· exact e26 _ (Rd.cons (Rd.cons hr)) (Rd.cons (Rd.cons hr2))); rintro _ H1 ⟨_, rfl, la, lc, rfl, lr, ll⟩))
             | (with_reducible refine NextSt.mk ?_)
             | (with_reducible refine OnBB.tt ?_)
             | ((with_reducible apply Cmp.yes); · first | omega | (with_reducible assumption) | (with_reducible rfl))
             | ((with_reducible apply LoadSt.boxAgg); · (repeat (first | exact List.Mem.head _ | with_reducible apply List.mem_append_right | with_reducible apply List.mem_cons_of_mem)))
             | ((with_reducible refine AllocSt.mk ?_); intro _b _hb _hbO)
             | ((with_reducible apply StoreSt.box); (· (repeat (first | exact Upd.hd | apply Upd.tl | apply Upd.app))); (· rfl); (· rfl); (· rfl)))
    conv => whnf
    refine FinSt.ret (by (try dsimp only); (try simp only [List.cons_append, List.nil_append]); (repeat (first | with_reducible exact List.Sublist.refl _ | with_reducible exact List.nil_sublist _ | with_reducible apply List.Sublist.cons_cons | with_reducible apply sub_app | apply List.Sublist.cons_cons | apply sub_app | with_reducible apply List.Sublist.cons | with_reducible apply sub_skip))) ?_
    rfl
end Go.Proofs.YtaahjlhfmkjefaaGreatDoor
/- The state at an entry, if it is the same in all cases. -/
namespace Go.Proofs.YtaahjlhfmkjefaaGreatDoor
open Go Go.Gv
set_option maxRecDepth 100000
set_option maxHeartbeats 16000000
set_option linter.unusedSimpArgs false
set_option linter.unusedVariables false
def stAt (p : Pl) (w : List Sp) (k : Int) (i : Nat) : Int := ((remV p w).getD i []).getD k.toNat 0
def sureP (p : Pl) (w : List Sp) (k : Int) : Prop := ∀ i < (remV p w).length, stAt p w k i = stAt p w k 0
instance (p : Pl) (w : List Sp) (k : Int) : Decidable (sureP p w k) := by unfold sureP; infer_instance
def tup3 (s : Int) (b : Bool) (e : Int) : Value := .tuple ⟨[.int .i64 s, .bool b, .int .i64 e]⟩
def sureT (p : Pl) (w : List Sp) (k : Int) : Value := if entE p w k ≠ 0 then tup3 0 false (entE p w k) else if (remV p w).length = 0 then tup3 0 false 33 else if sureP p w k then tup3 (stAt p w k 0) true 0 else tup3 0 false 0
theorem f30 (p : Pl) (w : List Sp) (k : Int) (a a2 : Option Addr) (c c2 : Nat) (hl : p.log.length ≤ 9223372036854775807) (hw : w.length ≤ 9223372036854775807) (h : View) (O : Hp) (hr : Rd h O a (p.log.flatMap shV)) (hr2 : Rd h O a2 (w.flatMap spV)) :
    GSpec Tryz.prog 15 [.agg ⟨plV p a c⟩, .slice a2 w.length c2, .int .i64 k] h O (Ret O (sureT p w k)) := by
  have e65 := fun O hr hr2 => f65 p w k a a2 c c2 hl hw h O hr hr2
  show GSpec Tryz.prog 15 [.agg ⟨[.int .i64 p.no, .int .i64 p.cell, .int .i64 p.noise, .int .i64 p.slab, .int .i64 p.jump, .int .i64 p.faults, .slice a p.log.length c]⟩, _, _] h O _
  by_cases he : entE p w k = 0
  · obtain ⟨ht, hk0, hkn, hlen⟩ := ent_ok he
    obtain ⟨hp, hwo⟩ := tell_ok ht
    have hpl := hp.1.2.2.2.2.2.2
    obtain ⟨n, hn⟩ : ∃ n : Nat, k = (n : Nat) := ⟨k.toNat, by omega⟩
    have hL : entL p w k = remV p w := if_pos he
    have hEnt : EntR p w k = fun v H => ∃ x, v = .tuple ⟨[x, .int .i64 0]⟩ ∧ LLR (remV p w) x H := by unfold EntR; rw [he, hL]
    rw [hEnt] at e65
    by_cases hz : (remV p w).length = 0
    · have hT : sureT p w k = tup3 0 false 33 := (if_neg (fun e => e he)).trans (if_pos hz)
      rw [hT]
      refine GSpec.enter (fn := Tryz.f15) Tryz.func15 rfl (by kernel_rfl) ?_
      repeat' (conv => whnf
               first
               | (((with_reducible refine CallSt.new (f := 34) (R := (fun v H => ∃ x, v = .tuple ⟨[x, .int .i64 0]⟩ ∧ LLR (remV p w) x H)) ?_ ?_); (· exact e65 _ (Rd.cons hr) (Rd.cons hr2)); rintro _ H1 ⟨_, rfl, la, lc, lvs, rfl, lr, lt, ll⟩))
               | (with_reducible refine NextSt.mk ?_)
               | (with_reducible refine OnBB.tt ?_)
               | (with_reducible refine OnBB.ff ?_)
               | ((with_reducible apply Cmp.yes); · first | omega | (with_reducible assumption) | (with_reducible rfl))
               | ((with_reducible apply Cmp.no); · first | omega | (with_reducible assumption))
               | ((with_reducible apply LoadSt.boxAgg); · (repeat (first | exact List.Mem.head _ | with_reducible apply List.mem_append_right | with_reducible apply List.mem_cons_of_mem)))
               | ((with_reducible refine AllocSt.mk ?_); intro _b _hb _hbO))
      conv => whnf
      refine FinSt.ret (by (try dsimp only); (try simp only [List.cons_append, List.nil_append]); (repeat (first | with_reducible exact List.Sublist.refl _ | with_reducible exact List.nil_sublist _ | with_reducible apply List.Sublist.cons_cons | with_reducible apply sub_app | apply List.Sublist.cons_cons | apply sub_app | with_reducible apply List.Sublist.cons | with_reducible apply sub_skip))) ?_
      rfl
    · have hT : sureT p w k = if sureP p w k then tup3 (stAt p w k 0) true 0 else tup3 0 false 0 := (if_neg (fun e => e he)).trans (if_neg hz)
      rw [hT]
      have hn' : k.toNat = n := by rw [hn]; rfl
      have hst : ∀ i, ((remV p w).getD i []).getD n 0 = stAt p w k i := fun i => by unfold stAt; rw [hn']
      refine GSpec.enter (fn := Tryz.f15) Tryz.func15 rfl (by kernel_rfl) ?_
      repeat' (conv => whnf
               first
               | (((with_reducible refine CallSt.new (f := 34) (R := (fun v H => ∃ x, v = .tuple ⟨[x, .int .i64 0]⟩ ∧ LLR (remV p w) x H)) ?_ ?_); (· exact e65 _ (Rd.cons hr) (Rd.cons hr2)); rintro _ H1 ⟨_, rfl, la, lc, lvs, rfl, lr, lt, ll⟩))
               | (with_reducible refine NextSt.mk ?_)
               | (with_reducible refine OnBB.ff ?_)
               | ((with_reducible apply Cmp.no); · first | omega | (with_reducible assumption))
               | ((with_reducible apply LoadSt.boxAgg); · (repeat (first | exact List.Mem.head _ | with_reducible apply List.mem_append_right | with_reducible apply List.mem_cons_of_mem)))
               | ((with_reducible refine AllocSt.mk ?_); intro _b _hb _hbO))
      have hvl := lt.1
      obtain ⟨a0, c0, hv0, hr0⟩ := gS_at lt (i := 0) (by omega)
      have hl0 := (remV_at (w := w) hp (i := 0) (by omega)).1.1
      refine LoopSt.fix [6, 7, 8, 12, 28, 29, 30, 31, 32, 33, 34, 35, 36, 37, 38, 39, 40, 41, 42, 43] (fun (i : Nat) => [(28, iN i)]) (fun _ => _) (fun i => i ≤ (remV p w).length ∧ ∀ j < i, stAt p w k j = stAt p w k 0) (fun i => (remV p w).length - i) (0) _ (Wk.refl _ _) (rfl) ?_ ?_ ?_
      · repeat' (first | exact True.intro | refine And.intro ?_ ?_ | rfl | exact congrArg (Value.int _) (by omega) | exact congrArg (fun n => Value.slice _ n _) (by (try dsimp only); omega))
      · exact ⟨Nat.zero_le _, fun j hj => by omega⟩
      · rintro i d ⟨hi, hall⟩
        by_cases hil : i < (remV p w).length
        · obtain ⟨a3, c3, hvi, hri⟩ := gS_at lt hil
          have hl3 := (remV_at hp hil).1.1
          have hsi := hst i
          have hs0 := hst 0
          by_cases hs : stAt p w k i = stAt p w k 0
          · subst hn
            repeat' (conv => whnf
                     first
                     | (((with_reducible apply LoadSt.rdm (g := gS) (k := i)); (· (repeat (first | with_reducible assumption | (with_reducible apply Buf.rd; with_reducible assumption) | (with_reducible apply Rd.appL; with_reducible assumption) | (with_reducible apply Rd.appL; with_reducible apply Buf.rd; with_reducible assumption) | (with_reducible apply Rd.ofH; with_reducible assumption) | (with_reducible apply Rd.ofH1; with_reducible assumption) | with_reducible apply Rd.cons | with_reducible apply Rd.appR))); (· omega)); rw [hvi]; unfold gS)
                     | (((with_reducible apply LoadSt.rdm (g := gS) (k := 0)); (· (repeat (first | with_reducible assumption | (with_reducible apply Buf.rd; with_reducible assumption) | (with_reducible apply Rd.appL; with_reducible assumption) | (with_reducible apply Rd.appL; with_reducible apply Buf.rd; with_reducible assumption) | (with_reducible apply Rd.ofH; with_reducible assumption) | (with_reducible apply Rd.ofH1; with_reducible assumption) | with_reducible apply Rd.cons | with_reducible apply Rd.appR))); (· omega)); rw [hv0]; unfold gS)
                     | (((with_reducible apply LoadSt.rdZ (k := n) (xs := (remV p w).getD i [])); (· (repeat (first | with_reducible assumption | (with_reducible apply Buf.rd; with_reducible assumption) | (with_reducible apply Rd.appL; with_reducible assumption) | (with_reducible apply Rd.appL; with_reducible apply Buf.rd; with_reducible assumption) | (with_reducible apply Rd.ofH; with_reducible assumption) | (with_reducible apply Rd.ofH1; with_reducible assumption) | with_reducible apply Rd.cons | with_reducible apply Rd.appR))); (· omega)); rw [hsi])
                     | (((with_reducible apply LoadSt.rdZ (k := n) (xs := (remV p w).getD 0 [])); (· (repeat (first | with_reducible assumption | (with_reducible apply Buf.rd; with_reducible assumption) | (with_reducible apply Rd.appL; with_reducible assumption) | (with_reducible apply Rd.appL; with_reducible apply Buf.rd; with_reducible assumption) | (with_reducible apply Rd.ofH; with_reducible assumption) | (with_reducible apply Rd.ofH1; with_reducible assumption) | with_reducible apply Rd.cons | with_reducible apply Rd.appR))); (· omega)); rw [hs0])
                     | ((with_reducible refine DrawSt.walk [0, 1, 2, 3, 4, 5, 6, 7, 8, 9, 10] mixed ?_ ?_); · decide +kernel)
                     | (with_reducible refine NextSt.mk ?_)
                     | (with_reducible refine OnBB.tt ?_)
                     | (with_reducible refine OnBB.ff ?_)
                     | ((with_reducible apply NW.addN); (· first | with_reducible rfl | exact natL _); (· first | with_reducible rfl | exact natL _); (· omega))
                     | ((with_reducible apply Cmp.yes); · first | omega | (with_reducible assumption) | (with_reducible rfl))
                     | ((with_reducible apply Cmp.no); · first | omega | (with_reducible assumption))
                     | ((with_reducible apply IdxSl.rd1); (· with_reducible assumption); (· rfl); (· first | with_reducible rfl | exact natL _); (· (first | omega | (simp only [List.length_map, List.length_append, List.length_cons, List.length_nil, List.length_take, List.length_drop, List.length_replicate, List.length_set] at *; omega))); · (first | omega | (simp only [List.length_map, List.length_append, List.length_cons, List.length_nil, List.length_take, List.length_drop, List.length_replicate, List.length_set] at *; omega))))
            refine RoundFix.mk (i + 1) ?_ ?_ _ rfl (Wk.drop (by (try dsimp only); (try simp only [List.cons_append, List.nil_append]); (repeat (first | with_reducible exact List.Sublist.refl _ | with_reducible exact List.nil_sublist _ | with_reducible apply List.Sublist.cons_cons | with_reducible apply sub_app | apply List.Sublist.cons_cons | apply sub_app | with_reducible apply List.Sublist.cons | with_reducible apply sub_skip)))) ?_
            · omega
            · repeat' (first | exact True.intro | refine And.intro ?_ ?_ | rfl | exact congrArg (Value.int _) (by omega) | exact congrArg (fun n => Value.slice _ n _) (by (try dsimp only); omega))
            · refine ⟨hil, fun j hj => ?_⟩
              by_cases e : j = i
              · rw [e]; exact hs
              · exact hall j (by omega)
          · rw [if_neg (show ¬ sureP p w k from fun hx => hs (hx i hil))]
            subst hn
            repeat' (conv => whnf
                     first
                     | (((with_reducible apply LoadSt.rdm (g := gS) (k := i)); (· (repeat (first | with_reducible assumption | (with_reducible apply Buf.rd; with_reducible assumption) | (with_reducible apply Rd.appL; with_reducible assumption) | (with_reducible apply Rd.appL; with_reducible apply Buf.rd; with_reducible assumption) | (with_reducible apply Rd.ofH; with_reducible assumption) | (with_reducible apply Rd.ofH1; with_reducible assumption) | with_reducible apply Rd.cons | with_reducible apply Rd.appR))); (· omega)); rw [hvi]; unfold gS)
                     | (((with_reducible apply LoadSt.rdm (g := gS) (k := 0)); (· (repeat (first | with_reducible assumption | (with_reducible apply Buf.rd; with_reducible assumption) | (with_reducible apply Rd.appL; with_reducible assumption) | (with_reducible apply Rd.appL; with_reducible apply Buf.rd; with_reducible assumption) | (with_reducible apply Rd.ofH; with_reducible assumption) | (with_reducible apply Rd.ofH1; with_reducible assumption) | with_reducible apply Rd.cons | with_reducible apply Rd.appR))); (· omega)); rw [hv0]; unfold gS)
                     | (((with_reducible apply LoadSt.rdZ (k := n) (xs := (remV p w).getD i [])); (· (repeat (first | with_reducible assumption | (with_reducible apply Buf.rd; with_reducible assumption) | (with_reducible apply Rd.appL; with_reducible assumption) | (with_reducible apply Rd.appL; with_reducible apply Buf.rd; with_reducible assumption) | (with_reducible apply Rd.ofH; with_reducible assumption) | (with_reducible apply Rd.ofH1; with_reducible assumption) | with_reducible apply Rd.cons | with_reducible apply Rd.appR))); (· omega)); rw [hsi])
                     | (((with_reducible apply LoadSt.rdZ (k := n) (xs := (remV p w).getD 0 [])); (· (repeat (first | with_reducible assumption | (with_reducible apply Buf.rd; with_reducible assumption) | (with_reducible apply Rd.appL; with_reducible assumption) | (with_reducible apply Rd.appL; with_reducible apply Buf.rd; with_reducible assumption) | (with_reducible apply Rd.ofH; with_reducible assumption) | (with_reducible apply Rd.ofH1; with_reducible assumption) | with_reducible apply Rd.cons | with_reducible apply Rd.appR))); (· omega)); rw [hs0])
                     | ((with_reducible refine DrawSt.walk [0, 1, 2, 3, 4, 5, 6, 7, 8, 9, 10] mixed ?_ ?_); · decide +kernel)
                     | (with_reducible refine NextSt.mk ?_)
                     | (with_reducible refine OnBB.tt ?_)
                     | ((with_reducible apply Cmp.yes); · first | omega | (with_reducible assumption) | (with_reducible rfl))
                     | ((with_reducible apply IdxSl.rd1); (· with_reducible assumption); (· rfl); (· first | with_reducible rfl | exact natL _); (· (first | omega | (simp only [List.length_map, List.length_append, List.length_cons, List.length_nil, List.length_take, List.length_drop, List.length_replicate, List.length_set] at *; omega))); · (first | omega | (simp only [List.length_map, List.length_append, List.length_cons, List.length_nil, List.length_take, List.length_drop, List.length_replicate, List.length_set] at *; omega))))
            conv => whnf
            refine FinSt.ret (by (try dsimp only); (try simp only [List.cons_append, List.nil_append]); (repeat (first | with_reducible exact List.Sublist.refl _ | with_reducible exact List.nil_sublist _ | with_reducible apply List.Sublist.cons_cons | with_reducible apply sub_app | apply List.Sublist.cons_cons | apply sub_app | with_reducible apply List.Sublist.cons | with_reducible apply sub_skip))) ?_
            rfl
        · rw [if_pos (show sureP p w k from fun j hj => hall j (by omega))]
          have hs0 := hst 0
          subst hn
          repeat' (conv => whnf
                   first
                   | (((with_reducible apply LoadSt.rdm (g := gS) (k := 0)); (· (repeat (first | with_reducible assumption | (with_reducible apply Buf.rd; with_reducible assumption) | (with_reducible apply Rd.appL; with_reducible assumption) | (with_reducible apply Rd.appL; with_reducible apply Buf.rd; with_reducible assumption) | (with_reducible apply Rd.ofH; with_reducible assumption) | (with_reducible apply Rd.ofH1; with_reducible assumption) | with_reducible apply Rd.cons | with_reducible apply Rd.appR))); (· omega)); rw [hv0]; unfold gS)
                   | (((with_reducible apply LoadSt.rdZ (k := n) (xs := (remV p w).getD 0 [])); (· (repeat (first | with_reducible assumption | (with_reducible apply Buf.rd; with_reducible assumption) | (with_reducible apply Rd.appL; with_reducible assumption) | (with_reducible apply Rd.appL; with_reducible apply Buf.rd; with_reducible assumption) | (with_reducible apply Rd.ofH; with_reducible assumption) | (with_reducible apply Rd.ofH1; with_reducible assumption) | with_reducible apply Rd.cons | with_reducible apply Rd.appR))); (· omega)); rw [hs0])
                   | (with_reducible refine NextSt.mk ?_)
                   | (with_reducible refine OnBB.ff ?_)
                   | ((with_reducible apply Cmp.no); · first | omega | (with_reducible assumption))
                   | ((with_reducible apply IdxSl.rd1); (· with_reducible assumption); (· rfl); (· first | with_reducible rfl | exact natL _); (· (first | omega | (simp only [List.length_map, List.length_append, List.length_cons, List.length_nil, List.length_take, List.length_drop, List.length_replicate, List.length_set] at *; omega))); · (first | omega | (simp only [List.length_map, List.length_append, List.length_cons, List.length_nil, List.length_take, List.length_drop, List.length_replicate, List.length_set] at *; omega))))
          conv => whnf
          refine FinSt.ret (by (try dsimp only); (try simp only [List.cons_append, List.nil_append]); (repeat (first | with_reducible exact List.Sublist.refl _ | with_reducible exact List.nil_sublist _ | with_reducible apply List.Sublist.cons_cons | with_reducible apply sub_app | apply List.Sublist.cons_cons | apply sub_app | with_reducible apply List.Sublist.cons | with_reducible apply sub_skip))) ?_
          rfl
  · have hT : sureT p w k = tup3 0 false (entE p w k) := if_pos he
    rw [hT]
    refine GSpec.enter (fn := Tryz.f15) Tryz.func15 rfl (by kernel_rfl) ?_
    repeat' (conv => whnf
             first
             | (((with_reducible refine CallSt.new (f := 34) (R := (EntR p w k)) ?_ ?_); (· exact e65 _ (Rd.cons hr) (Rd.cons hr2)); rintro _ H1 ⟨lx, rfl, hlx⟩))
             | (with_reducible refine NextSt.mk ?_)
             | (with_reducible refine OnBB.tt ?_)
             | ((with_reducible apply Cmp.yes); · first | omega | (with_reducible assumption) | (with_reducible rfl))
             | ((with_reducible apply LoadSt.boxAgg); · (repeat (first | exact List.Mem.head _ | with_reducible apply List.mem_append_right | with_reducible apply List.mem_cons_of_mem)))
             | ((with_reducible refine AllocSt.mk ?_); intro _b _hb _hbO))
    conv => whnf
    refine FinSt.ret (by (try dsimp only); (try simp only [List.cons_append, List.nil_append]); (repeat (first | with_reducible exact List.Sublist.refl _ | with_reducible exact List.nil_sublist _ | with_reducible apply List.Sublist.cons_cons | with_reducible apply sub_app | apply List.Sublist.cons_cons | apply sub_app | with_reducible apply List.Sublist.cons | with_reducible apply sub_skip))) ?_
    rfl
end Go.Proofs.YtaahjlhfmkjefaaGreatDoor
/- strings.Builder and strconv.Itoa, as calls of the logic. -/
namespace Go.Proofs.YtaahjlhfmkjefaaGreatDoor
open Go Go.Gv Go.Sort
set_option maxRecDepth 100000
set_option maxHeartbeats 8000000
set_option linter.unusedSimpArgs false
set_option linter.unusedVariables false
theorem grow_step {h : View} {O : Hp} {w : World} (hv : Val h O w) (k : Nat) (os : Array Obj) : Step h O w h O (grow (w.drewN k) os) := by
  have hh : ∀ b o, w.heap[b]? = some o → (w.heap ++ os)[b]? = some o := fun b o e => by
    rw [Array.getElem?_append_left (Array.getElem?_eq_some_iff.1 e).1]; exact e
  refine ⟨rfl, rfl, rfl, fun _ _ e => e, ⟨fun b o e => hh b o (hv.per b o e), fun b o m => hh b o (hv.own b o m), hv.nodup, hv.apart⟩, ?_, fun b hb _ => ?_, fun b e => .inl e, fun b o m => .inr ⟨o, m⟩⟩
  · show w.heap.size ≤ (w.heap ++ os).size
    simp
  · show (w.heap ++ os)[b]? = w.heap[b]?
    rw [Array.getElem?_append_left hb]
/-- The table of powers of ten, told of the view. -/
def PowV (h : View) : Prop := ∀ w : World, (∀ b o, h b = some o → w.heap[b]? = some o) → Lib.TabIs Tryz.prog w Tryz.powS .u64 Lib.pow10Tab
theorem PowV.mono {h h' : View} (H : PowV h) (hm : ∀ b o, h b = some o → h' b = some o) : PowV h' := fun w hw => H w fun b o e => hw b o (hm b o e)
theorem fn85 : ∃ fn, Tryz.prog.funcs[21]? = some fn ∧ fn.body.isSome = true ∧ (fn.name == "runtime.NumGoroutine") = false := ⟨_, Tryz.func21, by kernel_rfl, by kernel_rfl⟩
theorem f85 (n : Int) (hn : i64 n) (h : View) (hp : PowV h) (O : Hp) : GSpec Tryz.prog 21 [.int .i64 n] h O (Ret O (sV (Lib.itoa n))) := by
  refine ⟨fn85, fun w hv => ?_⟩
  refine Calls.mono (Tryz.strconv_Itoa n hn.1 hn.2 w (hp w hv.per)) ?_
  rintro e w' ⟨rfl, k, os, rfl⟩
  exact ⟨_, h, O, rfl, grow_step hv k os, rfl, rfl⟩
/-- A builder: where it lies, what it holds of its own address, its bytes. -/
def bldH (b : Nat) (p : Value) (B : Buf) (l : List UInt8) : Hp := (b, .cells ⟨[p, .slice B.a l.length B.cap]⟩ 59 (0, 0)) :: B.hp 5 (l.map byteV)
theorem fn100 : ∃ fn, Tryz.prog.funcs[39]? = some fn ∧ fn.body.isSome = true ∧ (fn.name == "runtime.NumGoroutine") = false := ⟨_, Tryz.func39, by kernel_rfl, by kernel_rfl⟩
theorem size111 : (Tryz.prog.info? 59).map (·.size) = some 2 := by kernel_rfl
theorem copy_used (b : Nat) (w : World) (h0 : w.cell? ⟨b, 0, none⟩ = some (.pointer (some ⟨b, 0, none⟩))) : Calls Tryz.prog 39 #[.pointer (some ⟨b, 0, none⟩)] w fun e w' => e = .returned (.tuple #[]) ∧ w' = w := by
  obtain ⟨j, hj, _⟩ := Option.map_eq_some_iff.1 size111
  go_enter Tryz.func39, Tryz.ntmps39
  go_wp2
  rw [Lib.run_neq_ptr_same w _ Tryz.underlying56 hj]
  go_wp2
  go_end0
  exact ⟨rfl, rfl⟩
theorem copy_fresh (b : Nat) (w : World) (h0 : w.cell? ⟨b, 0, none⟩ = some (.pointer none)) (hsh : w.shape? b = some (59, 2)) (hfz : w.frozen? ⟨b, 0, none⟩ = false) :
    Calls Tryz.prog 39 #[.pointer (some ⟨b, 0, none⟩)] w fun e w' => e = .returned (.tuple #[]) ∧ w' = w.setCell ⟨b, 0, none⟩ (.pointer (some ⟨b, 0, none⟩)) := by
  obtain ⟨j, hj, hjs⟩ := Option.map_eq_some_iff.1 size111
  go_enter Tryz.func39, Tryz.ntmps39
  go_wp2
  rw [Lib.run_to_unsafe w ⟨b, 0, none⟩ Tryz.underlying56 Tryz.underlying108 hj (by rw [hjs]; decide) hsh (Nat.zero_lt_succ 1)]
  simp only [Result.andThen]
  rw [Oper.upon_value]
  go_wp2
  rw [run_callFunc_extern Tryz.func59 (by kernel_rfl) (by kernel_rfl) (by kernel_rfl) (e := Extern.AbiNoEscape.same) (by kernel_rfl)]
  rw [Lib.run_noEscape]
  simp only [Result.andThen]
  rw [Oper.upon_value]
  go_wp2
  rw [Lib.run_from_unsafe w ⟨b, 0, none⟩ Tryz.underlying108 Tryz.underlying56 hj hsh (by kernel_rfl)]
  simp only [Result.andThen]
  rw [Oper.upon_value]
  go_wp2
  go_end0
  exact ⟨rfl, rfl⟩
theorem f100 (b : Nat) (p : Value) (B : Buf) (l : List UInt8) (hp : p = .pointer none ∨ p = .pointer (some ⟨b, 0, none⟩)) (h : View) : GSpec Tryz.prog 39 [.pointer (some ⟨b, 0, none⟩)] h (bldH b p B l) (fun _ _ O' => O' = bldH b (.pointer (some ⟨b, 0, none⟩)) B l) := by
  refine ⟨fn100, fun w hv => ?_⟩
  have hb := hv.own b _ (List.Mem.head _)
  rcases hp with rfl | rfl
  · refine Calls.mono (copy_fresh b w (by simp [World.cell?, hb]) (by simp [World.shape?, hb]) (by simp [World.frozen?, hb])) ?_
    rintro e w' ⟨rfl, rfl⟩
    have e1 : w.setCell ⟨b, 0, none⟩ (.pointer (some ⟨b, 0, none⟩)) = putBlock w b (.cells ⟨[.pointer (some ⟨b, 0, none⟩), .slice B.a l.length B.cap]⟩ 59 (0, 0)) := by
      unfold World.setCell putBlock
      congr 1
      apply Array.ext_getElem?
      intro k
      rw [Array.getElem?_modify, Array.getElem?_setIfInBounds]
      by_cases hk : b = k
      · subst hk
        rw [if_pos rfl, if_pos rfl, hb, if_pos (Array.getElem?_eq_some_iff.1 hb).1]
        rfl
      · rw [if_neg hk, if_neg hk]
    rw [e1]
    exact ⟨_, h, _, rfl, Step.put (O1 := []) hv, rfl⟩
  · refine Calls.mono (copy_used b w (by simp [World.cell?, hb])) ?_
    rintro e w' ⟨rfl, rfl⟩
    exact ⟨_, h, _, rfl, Step.refl hv, rfl⟩
theorem AppSt.strB {t t2 ty e : TypeId} {inf : TypeInfo} {b : Buf} {n : Nat} {l s : List UInt8} {h : View} {O : Hp} {f : Hp → Hp} {K : Value → View → Hp → Prop} (hO : Gv.Loc O (b.hp e (l.map byteV)) f) (hb : b.ok 1 (l.map byteV) n) (hu : Tryz.prog.underlying t2 = some .string) (hsz : inf.size = 1) (hby : inf.bytes = 1)
    (z : Value) (hz : inf.zero = some z) (hzl : (cellsL z).length = 1) (hfit : n + s.length ≤ 140737488355328) (hk : ∀ b' : Buf, b'.ok 1 ((l ++ s).map byteV) (n + s.length) → K (.slice b'.a (n + s.length) b'.cap) h (f (b'.hp e ((l ++ s).map byteV)))) : AppSt Tryz.prog t t2 ty e inf (.slice b.a n b.cap) (sV s) h O K := by
  refine .buf (m := s.length) (ys := s.map byteV) hO (by rw [hsz]; exact hb) (by rw [hsz]; exact Srcs.str hu) z hz (by rw [hsz]; exact hzl) (by rw [hby]; omega) (by omega) fun b' hb' => ?_
  rw [hsz, ← List.map_append] at hb'
  rw [← List.map_append]
  exact hk b' hb'
/-- What lies behind a write. -/
def BldR (b : Nat) (l : List UInt8) (O : Hp) : Prop := ∃ B : Buf, B.ok 1 (l.map byteV) l.length ∧ O = bldH b (.pointer (some ⟨b, 0, none⟩)) B l
theorem f84 (b : Nat) (p : Value) (B : Buf) (l s : List UInt8) (hp : p = .pointer none ∨ p = .pointer (some ⟨b, 0, none⟩)) (hB : B.ok 1 (l.map byteV) l.length) (hl : l.length + s.length ≤ 1099511627776) (h : View) :
    GSpec Tryz.prog 20 [.pointer (some ⟨b, 0, none⟩), sV s] h (bldH b p B l) (fun _ _ O' => BldR b (l ++ s) O') := by
  have e100 := f100 b p B l hp h
  have hls : (l ++ s).length = l.length + s.length := List.length_append
  refine GSpec.enter (fn := Tryz.f20) Tryz.func20 rfl (by kernel_rfl) ?_
  repeat' (conv => whnf
           first
           | (((apply CallSt.turn (f := 39)); (· exact e100); rintro _ _ rfl; unfold bldH))
           | (((apply AppSt.strB (l := l) (s := s) (z := .int .u8 0)); (· (repeat (first | with_reducible exact Loc.hd | with_reducible exact Loc.last | with_reducible exact Loc.one | with_reducible apply Loc.tl | with_reducible apply Loc.skip))); (· exact hB); (· rfl); (· rfl); (· rfl); (· rfl); (· rfl); (· omega); intro B1 hB1; rw [← hls] at hB1 ⊢))
           | (with_reducible refine NextSt.mk ?_)
           | ((with_reducible apply LoadSt.box); · (repeat (first | exact List.Mem.head _ | with_reducible apply List.mem_append_right | with_reducible apply List.mem_cons_of_mem)))
           | ((with_reducible apply StoreSt.box); (· (repeat (first | exact Upd.hd | apply Upd.tl | apply Upd.app))); (· rfl); (· rfl); (· rfl)))
  conv => whnf
  exact FinSt.own (R := fun _ O' => BldR b (l ++ s) O') (List.Sublist.refl _) ⟨B1, hB1, rfl⟩
theorem fn86 : ∃ fn, Tryz.prog.funcs[22]? = some fn ∧ fn.body.isSome = true ∧ (fn.name == "runtime.NumGoroutine") = false := ⟨_, Tryz.func22, by kernel_rfl, by kernel_rfl⟩
theorem str86 (b g cap : Nat) (p : Value) (cur : Array Value) (fr : Nat × Nat) (l : List UInt8) (w : World) (hbk : w.heap[b]? = some (.cells #[p, .slice (some ⟨g, 0, none⟩) l.length cap] 59 (0, 0))) (hg : w.heap[g]? = some (.cells cur 5 fr)) (h0 : l ≠ [])
    (hc0 : cap ≠ 0) (hle : l.length ≤ cur.size) (hbd : l.length ≤ 1099511627776) (hcell : ∀ (j : Nat) (x : UInt8), l[j]? = some x → cur[j]? = some (Value.int .u8 x.toNat)) :
    Calls Tryz.prog 22 #[.pointer (some ⟨b, 0, none⟩)] w fun e w' => e = .returned (.string ⟨l.toArray⟩) ∧ w' = w.drew.freeze ⟨g, 0, none⟩ l.length := by
  have c1 : w.drew.cell? ⟨b, 1, none⟩ = some (.slice (some ⟨g, 0, none⟩) l.length cap) := by
    have : w.drew.heap[b]? = some (.cells #[p, .slice (some ⟨g, 0, none⟩) l.length cap] 59 (0, 0)) := hbk
    rw [Lib.cell_of_heap this]; rfl
  have hg' : w.drew.heap[g]? = some (.cells cur 5 fr) := hg
  have hSD : (Builtin.unsafeSliceData_ #[57] 90 #[.slice (some ⟨g, 0, none⟩) l.length cap]).run Tryz.prog w.drew = .ok (.pointer (some ⟨g, 0, none⟩)) w.drew :=
    Lib.run_unsafeSliceData_row _ _ _ _ _ _ hc0
  have hUS : (Builtin.unsafeString_ #[90, 3] 9 #[.pointer (some ⟨g, 0, none⟩), .int .i64 l.length]).run Tryz.prog w.drew = .ok (.string ⟨l.toArray⟩) (w.drew.freeze ⟨g, 0, none⟩ l.length) := by
    refine Lib.run_unsafeString_row w.drew 90 3 9 5 Tryz.underlying90 (by kernel_rfl) g cur.size (by simp [World.shape?, hg']) l h0 hle (by omega) ?_
    intro j x hx
    have := hcell j x hx
    rw [addr_add, Nat.zero_add, Lib.cell_of_heap hg']
    exact this
  clear hcell hg hg' hbk
  have mixed := mixed
  go_enter Tryz.func22, Tryz.ntmps22
  go_wp2
  go_region_o
  all_goals (go_wp2; go_ret; exact ⟨rfl, rfl⟩)
theorem f86 (b : Nat) (B : Buf) (l : List UInt8) (h0 : l ≠ []) (hB : B.ok 1 (l.map byteV) l.length) (hl : l.length ≤ 1099511627776) (h : View) : GSpec Tryz.prog 22 [.pointer (some ⟨b, 0, none⟩)] h (bldH b (.pointer (some ⟨b, 0, none⟩)) B l) (fun v _ O' => v = sV l ∧ O' = []) := by
  refine ⟨fn86, fun w hv => ?_⟩
  obtain ⟨ba, cap, pad, fr⟩ := B
  have hl0 : 0 < l.length := List.length_pos_iff.2 h0
  rcases hB.2 with ⟨_, _, hn⟩ | ⟨ha, hc, hpd, hfr⟩
  · omega
  simp only at ha hc hpd hfr
  generalize blk ba = g at ha
  subst ha
  have hb := hv.own b _ (List.Mem.head _)
  have hg := hv.own g (.cells ⟨l.map byteV ++ pad⟩ 5 fr) (List.Mem.tail _ (List.Mem.head _))
  refine Calls.mono (str86 b g cap (.pointer (some ⟨b, 0, none⟩)) ⟨l.map byteV ++ pad⟩ fr l w hb hg h0 (by omega) (by simp) hl (fun j x hx => ?_)) ?_
  · have hj := (List.getElem?_eq_some_iff.1 hx).1
    rw [List.getElem?_toArray, List.getElem?_append_left (by rw [List.length_map]; exact hj), List.getElem?_map, hx]; rfl
  rintro e w' ⟨rfl, rfl⟩
  obtain ⟨fr', hfz⟩ : ∃ fr', w.drew.freeze ⟨g, 0, none⟩ l.length = putBlock w.drew g (.cells ⟨l.map byteV ++ pad⟩ 5 fr') := by
    obtain ⟨lo, hi⟩ := fr
    refine ⟨if lo == hi then (0, 0 + l.length) else (min lo 0, max hi (0 + l.length)), ?_⟩
    unfold World.freeze putBlock
    rw [if_neg (by omega)]
    congr 1
    apply Array.ext_getElem?
    intro k
    rw [Array.getElem?_modify, Array.getElem?_setIfInBounds]
    by_cases hk : g = k
    · subst hk
      have hg' : w.drew.heap[g]? = some (.cells ⟨l.map byteV ++ pad⟩ 5 (lo, hi)) := hg
      rw [if_pos rfl, if_pos rfl, hg', if_pos (Array.getElem?_eq_some_iff.1 hg').1]
      rfl
    · rw [if_neg hk, if_neg hk]
  rw [hfz]
  have st := Step.put (O1 := [_]) (O2 := []) (o' := .cells ⟨l.map byteV ++ pad⟩ 5 fr') hv.drew
  exact ⟨_, h, [], rfl, ((hv.drawn _).trans st).postWk (Wk.drop (List.nil_sublist _)), rfl, rfl⟩
end Go.Proofs.YtaahjlhfmkjefaaGreatDoor
/- A pillow's text. -/
namespace Go.Proofs.YtaahjlhfmkjefaaGreatDoor
open Go Go.Gv Go.Sort
set_option maxRecDepth 100000
set_option maxHeartbeats 8000000
set_option linter.unusedSimpArgs false
set_option linter.unusedVariables false
theorem dec_len : ∀ (k u : Nat), u < 10 ^ (k + 1) → (Lib.decDigits u).length ≤ k + 1
  | 0, u, h => by
    unfold Lib.decDigits
    rw [dif_pos (by simpa using h)]
    simp
  | k + 1, u, h => by
    unfold Lib.decDigits
    split
    · simp
    · rename_i hu
      have := dec_len k (u / 10) (by rw [Nat.pow_succ] at h; omega)
      rw [List.length_append]
      simp only [List.length_cons, List.length_nil]
      omega
theorem itoa_len {n : Int} (h : 0 ≤ n ∧ n ≤ 1048576) : (Lib.itoa n).length ≤ 10 := by
  unfold Lib.itoa
  rw [if_neg (by omega)]
  exact dec_len 9 _ (by have : (10 : Nat) ^ (9 + 1) = 10000000000 := by decide
                        omega)
/-- The text of one number, of one entry; of the numbers ahead of the log. -/
def txN (n : Int) : List UInt8 := [32] ++ Lib.itoa n
def txS (s : Sh) : List UInt8 := [32] ++ Lib.itoa s.day ++ [61] ++ Lib.itoa s.wt
def headN (p : Pl) : List Int := [p.no, p.cell, p.noise, p.slab, p.jump, p.faults]
def word : List UInt8 := [112, 105, 108, 108, 111, 119]
def prV (p : Pl) : List UInt8 := word ++ (headN p).flatMap txN ++ p.log.flatMap txS
def prT (p : Pl) : Value := .tuple ⟨[sV (if chkP p = 0 then prV p else []), .int .i64 (chkP p)]⟩
theorem flatMap_len' {α β : Type} {f : α → List β} {n : Nat} {l : List α} (h : ∀ x ∈ l, (f x).length ≤ n) : (l.flatMap f).length ≤ n * l.length := flatMap_len h
theorem f57 (p : Pl) (a : Option Addr) (c : Nat) (hl : p.log.length ≤ 9223372036854775807) (h : View) (hpw : PowV h) (O : Hp) (hr : Rd h O a (p.log.flatMap shV)) : GSpec Tryz.prog 5 [.agg ⟨plV p a c⟩] h O (Ret O (prT p)) := by
  have e45 := fun O hr => f45 p a c hl h O hr
  show GSpec Tryz.prog 5 [.agg ⟨[.int .i64 p.no, .int .i64 p.cell, .int .i64 p.noise, .int .i64 p.slab, .int .i64 p.jump, .int .i64 p.faults, .slice a p.log.length c]⟩] h O _
  by_cases hp : pOk p
  · have hc : chkP p = 0 := if_pos hp
    have hT : prT p = .tuple ⟨[sV (prV p), .int .i64 0]⟩ := by unfold prT; rw [hc]; rfl
    rw [hT]
    rw [hc] at e45
    have hpl := hp.1.2.2.2.2.2.2
    have e84 := fun b B l s hB hl => f84 b (.pointer (some ⟨b, 0, none⟩)) B l s (.inr rfl) hB hl h
    have e84a := fun b => f84 b (.pointer none) Buf.nil [] word (.inl rfl) (Buf.nil_ok 1) (by decide) h
    have e85 := fun n hn O => f85 n hn h hpw O
    have hh : ∀ i < 6, 0 ≤ (headN p).getD i 0 ∧ (headN p).getD i 0 ≤ 1048576 := fun i hi => by
      have h1 := hp.1
      unfold pHead at h1
      have : i = 0 ∨ i = 1 ∨ i = 2 ∨ i = 3 ∨ i = 4 ∨ i = 5 := by omega
      rcases this with rfl | rfl | rfl | rfl | rfl | rfl
      · show 0 ≤ p.no ∧ p.no ≤ 1048576; omega
      · show 0 ≤ p.cell ∧ p.cell ≤ 1048576; omega
      · show 0 ≤ p.noise ∧ p.noise ≤ 1048576; omega
      · show 0 ≤ p.slab ∧ p.slab ≤ 1048576; omega
      · show 0 ≤ p.jump ∧ p.jump ≤ 1048576; omega
      · show 0 ≤ p.faults ∧ p.faults ≤ 1048576; omega
    refine GSpec.enter (fn := Tryz.f5) Tryz.func5 rfl (by kernel_rfl) ?_
    repeat' (conv => whnf
             first
             | (((with_reducible refine CallSt.rd (f := 19) (X := .int .i64 0) ?_ ?_); (· exact e45 _ (Rd.cons hr))))
             | (with_reducible refine NextSt.mk ?_)
             | (with_reducible refine OnBB.ff ?_)
             | ((with_reducible apply Cmp.no); · first | omega | (with_reducible assumption))
             | ((with_reducible apply LoadSt.boxAgg); · (repeat (first | exact List.Mem.head _ | with_reducible apply List.mem_append_right | with_reducible apply List.mem_cons_of_mem)))
             | ((with_reducible refine AllocSt.mk ?_); intro _b _hb _hbO))
    rename_i b1 _ _
    obtain ⟨b5, hb5⟩ : ∃ x, x = _b := ⟨_, rfl⟩
    subst hb5
    repeat' (conv => whnf
             first
             | (((apply CallSt.loc (f := 20)); (· exact Loc.one); (· exact e84a _); rintro _ _ ⟨C0, hC0, rfl⟩))
             | (with_reducible refine NextSt.mk ?_)
             | ((with_reducible apply LoadSt.box); · (repeat (first | exact List.Mem.head _ | with_reducible apply List.mem_append_right | with_reducible apply List.mem_cons_of_mem)))
             | ((with_reducible refine AllocSt.mk ?_); intro _b _hb _hbO))
    obtain ⟨bn, hbn⟩ : ∃ x, x = _b := ⟨_, rfl⟩
    subst hbn
    refine LoopSt.fix [7, 30, 31, 32, 33, 34, 35, 36, 37, 38] (fun ((i, C) : Nat × Buf) => [(30, iN i)]) (fun (i, C) => (bn, .cells ⟨(headN p).map zI⟩ 3 (0, 0)) :: (bldH b5 (.pointer (some ⟨b5, 0, none⟩)) C (word ++ ((headN p).take i).flatMap txN) ++ (b1, .cells ⟨[.int .i64 p.no, .int .i64 p.cell, .int .i64 p.noise, .int .i64 p.slab, .int .i64 p.jump, .int .i64 p.faults, .slice a p.log.length c]⟩ 24 (0, 0)) :: O)) (fun (i, C) => i ≤ 6 ∧ C.ok 1 ((word ++ ((headN p).take i).flatMap txN).map byteV) (word ++ ((headN p).take i).flatMap txN).length) (fun (i, C) => 6 - i) ((0, C0)) _ (Wk.refl _ _) (rfl) ?_ ?_ ?_
    · repeat' (first | exact True.intro | refine And.intro ?_ ?_ | rfl | exact congrArg (Value.int _) (by omega) | exact congrArg (fun n => Value.slice _ n _) (by (try dsimp only); omega))
    · exact ⟨Nat.zero_le _, hC0⟩
    · rintro ⟨i, C⟩ d ⟨hi, hC⟩
      dsimp only at hi hC ⊢
      by_cases hi6 : i < 6
      · have hn := hh i hi6
        have hst : word ++ ((headN p).take (i + 1)).flatMap txN = (word ++ ((headN p).take i).flatMap txN) ++ txN ((headN p).getD i 0) := by
          rw [List.take_add_one, List.getElem?_eq_getElem (show i < (headN p).length from hi6), List.flatMap_append, List.append_assoc, List.getD_eq_getElem?_getD, List.getElem?_eq_getElem (show i < (headN p).length from hi6)]
          simp
        have hlen : (word ++ ((headN p).take i).flatMap txN).length ≤ 1000 := by
          have h1 := flatMap_len' (f := txN) (n := 11) (l := (headN p).take i) fun x hx => by
            obtain ⟨j, hj, rfl⟩ := List.mem_iff_getElem.1 (List.mem_of_mem_take hx)
            have := itoa_len (hh j hj)
            rw [List.getD_eq_getElem?_getD, List.getElem?_eq_getElem hj] at this
            unfold txN
            rw [List.length_append]
            simp only [Option.getD_some] at this
            simp only [List.length_cons, List.length_nil]
            omega
          rw [List.length_append, List.length_take] at *
          have : word.length = 6 := rfl
          omega
        have hil := itoa_len hn
        generalize hM : word ++ ((headN p).take i).flatMap txN = M at *
        generalize hM1 : word ++ ((headN p).take (i + 1)).flatMap txN = M1 at *
        generalize hy : (headN p).getD i 0 = y at *
        have e84i := e84 b5 C M (txN y) hC (by unfold txN; rw [List.length_append]; simp only [List.length_cons, List.length_nil]; omega)
        rw [← hst] at e84i
        repeat' (conv => whnf
                 first
                 | ((refine LoadSt.rdZ (a := some ⟨bn, 0, none⟩) (xs := headN p) (k := i) (Rd.own0 (List.Mem.head _)) hi6 ?_); rw [hy])
                 | (((with_reducible refine CallSt.rd (f := 21) (X := sV (Lib.itoa y)) ?_ ?_); (· exact e85 y (by omega) _)))
                 | (((apply CallSt.loc (f := 20) (H := bldH b5 (.pointer (some ⟨b5, 0, none⟩)) C M)); (· (repeat (first | with_reducible exact Loc.hd | with_reducible exact Loc.last | with_reducible exact Loc.one | with_reducible apply Loc.tl | with_reducible apply Loc.skip))); (· exact e84i); rintro _ _ ⟨C1, hC1, rfl⟩))
                 | (with_reducible refine NextSt.mk ?_)
                 | (with_reducible refine OnBB.tt ?_)
                 | ((with_reducible apply NW.addN); (· first | with_reducible rfl | exact natL _); (· first | with_reducible rfl | exact natL _); (· omega))
                 | ((with_reducible apply Cmp.yes); · first | omega | (with_reducible assumption) | (with_reducible rfl))
                 | ((with_reducible apply StrAdd.mk); · (first | omega | (simp only [List.length_map, List.length_append, List.length_cons, List.length_nil, List.length_take, List.length_drop, List.length_replicate, List.length_set] at *; omega)))
                 | ((with_reducible apply IdxSl.own1); (· rfl); (· first | with_reducible rfl | exact natL _); · (first | omega | (simp only [List.length_map, List.length_append, List.length_cons, List.length_nil, List.length_take, List.length_drop, List.length_replicate, List.length_set] at *; omega))))
        subst hM1
        refine RoundFix.mk ((i + 1, C1)) ?_ ?_ _ rfl (Wk.drop (by (try dsimp only); (try simp only [List.cons_append, List.nil_append]); (repeat (first | with_reducible exact List.Sublist.refl _ | with_reducible exact List.nil_sublist _ | with_reducible apply List.Sublist.cons_cons | with_reducible apply sub_app | apply List.Sublist.cons_cons | apply sub_app | with_reducible apply List.Sublist.cons | with_reducible apply sub_skip)))) ?_
        · dsimp only; omega
        · repeat' (first | exact True.intro | refine And.intro ?_ ?_ | rfl | exact congrArg (Value.int _) (by omega) | exact congrArg (fun n => Value.slice _ n _) (by (try dsimp only); omega))
        · exact ⟨hi6, hC1⟩
      · have : i = 6 := by omega
        subst this
        rw [show (headN p).take 6 = headN p from rfl] at hC ⊢
        obtain ⟨Hd, hHd⟩ : ∃ Hd, word ++ (headN p).flatMap txN = Hd := ⟨_, rfl⟩
        have hHl : Hd.length ≤ 1000 := by
          have h1 := flatMap_len' (f := txN) (n := 11) (l := headN p) fun x hx => by
            obtain ⟨j, hj, rfl⟩ := List.mem_iff_getElem.1 hx
            have := itoa_len (hh j hj)
            rw [List.getD_eq_getElem?_getD, List.getElem?_eq_getElem hj] at this
            unfold txN
            rw [List.length_append]
            simp only [Option.getD_some] at this
            simp only [List.length_cons, List.length_nil]
            omega
          rw [← hHd, List.length_append]
          have h2 : word.length = 6 := rfl
          have h3 : (headN p).length = 6 := rfl
          rw [h3] at h1
          omega
        have hpr : prV p = Hd ++ p.log.flatMap txS := by rw [← hHd]; rfl
        rw [hpr]
        rw [hHd] at hC ⊢
        have hss : ∀ j < p.log.length, (0 ≤ (p.log.getD j default).day ∧ (p.log.getD j default).day ≤ 1048576) ∧ (0 ≤ (p.log.getD j default).wt ∧ (p.log.getD j default).wt ≤ 1048576) := fun j hj => by
          have := hp.2 j hj
          unfold logOk at this
          omega
        have hsl : ∀ s : Sh, (0 ≤ s.day ∧ s.day ≤ 1048576) ∧ (0 ≤ s.wt ∧ s.wt ≤ 1048576) → (txS s).length ≤ 22 := fun s hs => by
          have h1 := itoa_len hs.1
          have h2 := itoa_len hs.2
          unfold txS
          simp only [List.length_append, List.length_cons, List.length_nil]
          omega
        have htl : ∀ j, ((p.log.take j).flatMap txS).length ≤ 704 := fun j => by
          have h1 := flatMap_len' (f := txS) (n := 22) (l := p.log.take j) fun x hx => by
            obtain ⟨q, hq, rfl⟩ := List.mem_iff_getElem.1 (List.mem_of_mem_take hx)
            have := hsl _ (hss q hq)
            rw [List.getD_eq_getElem?_getD, List.getElem?_eq_getElem hq] at this
            exact this
          rw [List.length_take] at h1
          omega
        clear hh e84a
        repeat' (conv => whnf
                 first
                 | (with_reducible refine NextSt.mk ?_)
                 | (with_reducible refine OnBB.ff ?_)
                 | ((with_reducible apply Cmp.no); · first | omega | (with_reducible assumption))
                 | ((with_reducible apply LoadSt.box); · (repeat (first | exact List.Mem.head _ | with_reducible apply List.mem_append_right | with_reducible apply List.mem_cons_of_mem))))
        refine LoopSt.fix [9, 42, 43, 44, 45, 46, 47, 48, 49, 50, 51, 52, 53, 54, 55, 56] (fun ((i, C) : Nat × Buf) => [(42, iN i)]) (fun (i, C) => (bn, .cells ⟨(headN p).map zI⟩ 3 (0, 0)) :: (bldH b5 (.pointer (some ⟨b5, 0, none⟩)) C (Hd ++ (p.log.take i).flatMap txS) ++ (b1, .cells ⟨[.int .i64 p.no, .int .i64 p.cell, .int .i64 p.noise, .int .i64 p.slab, .int .i64 p.jump, .int .i64 p.faults, .slice a p.log.length c]⟩ 24 (0, 0)) :: O)) (fun (i, C) => i ≤ p.log.length ∧ C.ok 1 ((Hd ++ (p.log.take i).flatMap txS).map byteV) (Hd ++ (p.log.take i).flatMap txS).length) (fun (i, C) => p.log.length - i) ((0, C)) _ (Wk.refl _ _) ((by simp only [List.take_zero, List.flatMap_nil, List.append_nil])) ?_ ?_ ?_
        · repeat' (first | exact True.intro | refine And.intro ?_ ?_ | rfl | exact congrArg (Value.int _) (by omega) | exact congrArg (fun n => Value.slice _ n _) (by (try dsimp only); omega))
        · exact ⟨Nat.zero_le _, by simp only [List.take_zero, List.flatMap_nil, List.append_nil]; exact hC⟩
        · rintro ⟨j, C⟩ d2 ⟨hj, hC⟩
          dsimp only at hj hC ⊢
          by_cases hjl : j < p.log.length
          · have hn := hss j hjl
            have hst : Hd ++ (p.log.take (j + 1)).flatMap txS = (Hd ++ (p.log.take j).flatMap txS) ++ txS (p.log.getD j default) := by
              rw [List.take_add_one, List.getElem?_eq_getElem hjl, List.flatMap_append, List.append_assoc, List.getD_eq_getElem?_getD, List.getElem?_eq_getElem hjl]
              simp
            have hlen : (Hd ++ (p.log.take j).flatMap txS).length ≤ 2000 := by
              have := htl j
              rw [List.length_append]; omega
            have hl1 := itoa_len hn.1
            have hl2 := itoa_len hn.2
            have hsl1 := hsl _ hn
            generalize hM : Hd ++ (p.log.take j).flatMap txS = M at *
            generalize hM1 : Hd ++ (p.log.take (j + 1)).flatMap txS = M1 at *
            have e84i := e84 b5 C M (txS (p.log.getD j default)) hC (by omega)
            rw [← hst] at e84i
            repeat' (conv => whnf
                     first
                     | (((with_reducible refine DrawSt.walkT [0, 1, 5, 6, 2, 3, 4, 7, 8] 9 [] mixed ?_ ?_); · decide +kernel))
                     | (((with_reducible refine CallG.rd (f := 21) (X := sV (Lib.itoa (p.log.getD j default).day)) ?_ ?_); (· exact e85 (p.log.getD j default).day (by omega) _)))
                     | (((with_reducible refine CallG.rd (f := 21) (X := sV (Lib.itoa (p.log.getD j default).wt)) ?_ ?_); (· exact e85 (p.log.getD j default).wt (by omega) _)))
                     | (((apply CallSt.loc (f := 20) (H := bldH b5 (.pointer (some ⟨b5, 0, none⟩)) C M)); (· (repeat (first | with_reducible exact Loc.hd | with_reducible exact Loc.last | with_reducible exact Loc.one | with_reducible apply Loc.tl | with_reducible apply Loc.skip))); (· exact e84i); rintro _ _ ⟨C1, hC1, rfl⟩))
                     | ((with_reducible apply LoadSt.rdg (g := shV) (s := 2)); (· rfl); (· (repeat (first | with_reducible assumption | (with_reducible apply Rd.any; with_reducible assumption) | (with_reducible apply Buf.rd; with_reducible assumption) | (with_reducible apply Rd.appL; with_reducible assumption) | (with_reducible apply Rd.appL; with_reducible apply Buf.rd; with_reducible assumption) | (with_reducible apply Rd.ofH; with_reducible assumption) | (with_reducible apply Rd.ofH1; with_reducible assumption) | with_reducible apply Rd.cons | with_reducible apply Rd.appR))); (· exact fun _ => rfl); (· decide); · (first | omega | (simp only [List.length_map, List.length_append, List.length_cons, List.length_nil, List.length_take, List.length_drop, List.length_replicate, List.length_set] at *; omega)))
                     | ((with_reducible apply IdxSl.rdg (g := shV) (s := 2)); (· with_reducible assumption); (· exact fun _ => rfl); (· decide); (· rfl); (· first | with_reducible rfl | exact natL _); (· (first | omega | (simp only [List.length_map, List.length_append, List.length_cons, List.length_nil, List.length_take, List.length_drop, List.length_replicate, List.length_set] at *; omega))); · (first | omega | (simp only [List.length_map, List.length_append, List.length_cons, List.length_nil, List.length_take, List.length_drop, List.length_replicate, List.length_set] at *; omega)))
                     | (with_reducible refine NextSt.mk ?_)
                     | (with_reducible refine OnBB.tt ?_)
                     | ((with_reducible apply NW.addN); (· first | with_reducible rfl | exact natL _); (· first | with_reducible rfl | exact natL _); (· omega))
                     | ((with_reducible apply Cmp.yes); · first | omega | (with_reducible assumption) | (with_reducible rfl))
                     | ((with_reducible apply LoadSt.box); · (repeat (first | exact List.Mem.head _ | with_reducible apply List.mem_append_right | with_reducible apply List.mem_cons_of_mem)))
                     | ((with_reducible refine AllocSt.mk ?_); intro _b _hb _hbO)
                     | ((with_reducible apply StoreSt.box); (· (repeat (first | exact Upd.hd | apply Upd.tl | apply Upd.app))); (· rfl); (· rfl); (· rfl))
                     | ((with_reducible apply StrAdd.mk); · (first | omega | (simp only [List.length_map, List.length_append, List.length_cons, List.length_nil, List.length_take, List.length_drop, List.length_replicate, List.length_set] at *; omega))))
            subst hM1
            refine RoundFix.mk ((j + 1, C1)) ?_ ?_ _ rfl (Wk.drop (by (try dsimp only); (try simp only [List.cons_append, List.nil_append]); (repeat (first | with_reducible exact List.Sublist.refl _ | with_reducible exact List.nil_sublist _ | with_reducible apply List.Sublist.cons_cons | with_reducible apply sub_app | apply List.Sublist.cons_cons | apply sub_app | with_reducible apply List.Sublist.cons | with_reducible apply sub_skip)))) ?_
            · dsimp only; omega
            · repeat' (first | exact True.intro | refine And.intro ?_ ?_ | rfl | exact congrArg (Value.int _) (by omega) | exact congrArg (fun n => Value.slice _ n _) (by (try dsimp only); omega))
            · exact ⟨hjl, hC1⟩
          · have : j = p.log.length := by omega
            subst this
            rw [List.take_length] at hC ⊢
            have htl' := htl p.log.length
            rw [List.take_length] at htl'
            have e86 := f86 b5 C (Hd ++ p.log.flatMap txS) (by rw [← hHd]; simp [word]) hC (by rw [List.length_append]; omega) h
            repeat' (conv => whnf
                     first
                     | (((apply CallSt.loc (f := 22) (H := bldH b5 (.pointer (some ⟨b5, 0, none⟩)) C (Hd ++ p.log.flatMap txS))); (· (repeat (first | with_reducible exact Loc.hd | with_reducible exact Loc.last | with_reducible exact Loc.one | with_reducible apply Loc.tl | with_reducible apply Loc.skip))); (· exact e86); rintro _ _ ⟨rfl, rfl⟩))
                     | (with_reducible refine NextSt.mk ?_)
                     | (with_reducible refine OnBB.ff ?_)
                     | ((with_reducible apply Cmp.no); · first | omega | (with_reducible assumption)))
            conv => whnf
            refine FinSt.ret (by (try dsimp only); (try simp only [List.cons_append, List.nil_append]); (repeat (first | with_reducible exact List.Sublist.refl _ | with_reducible exact List.nil_sublist _ | with_reducible apply List.Sublist.cons_cons | with_reducible apply sub_app | apply List.Sublist.cons_cons | apply sub_app | with_reducible apply List.Sublist.cons | with_reducible apply sub_skip))) ?_
            rfl
  · have hc : chkP p = 30 := if_neg hp
    have hT : prT p = .tuple ⟨[sV [], .int .i64 30]⟩ := by unfold prT; rw [hc]; rfl
    rw [hT]
    rw [hc] at e45
    refine GSpec.enter (fn := Tryz.f5) Tryz.func5 rfl (by kernel_rfl) ?_
    repeat' (conv => whnf
             first
             | (((with_reducible refine CallSt.rd (f := 19) (X := .int .i64 30) ?_ ?_); (· exact e45 _ (Rd.cons hr))))
             | (with_reducible refine NextSt.mk ?_)
             | (with_reducible refine OnBB.tt ?_)
             | ((with_reducible apply Cmp.yes); · first | omega | (with_reducible assumption) | (with_reducible rfl))
             | ((with_reducible apply LoadSt.boxAgg); · (repeat (first | exact List.Mem.head _ | with_reducible apply List.mem_append_right | with_reducible apply List.mem_cons_of_mem)))
             | ((with_reducible refine AllocSt.mk ?_); intro _b _hb _hbO))
    conv => whnf
    refine FinSt.ret (by (try dsimp only); (try simp only [List.cons_append, List.nil_append]); (repeat (first | with_reducible exact List.Sublist.refl _ | with_reducible exact List.nil_sublist _ | with_reducible apply List.Sublist.cons_cons | with_reducible apply sub_app | apply List.Sublist.cons_cons | apply sub_app | with_reducible apply List.Sublist.cons | with_reducible apply sub_skip))) ?_
    rfl
end Go.Proofs.YtaahjlhfmkjefaaGreatDoor
