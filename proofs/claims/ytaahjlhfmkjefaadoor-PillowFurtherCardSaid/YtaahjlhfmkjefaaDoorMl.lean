/- An entry is added. -/
import Derived.Test.YtaahjlhfmkjefaaDoorMi
import Derived.Test.YtaahjlhfmkjefaaDoorGe
set_option linter.unusedVariables false
set_option linter.unusedSimpArgs false
set_option linter.unusedSectionVars false
/- An entry is added: the program's function and the reference's; the law. -/
namespace Go.Proofs.YtaahjlhfmkjefaaDoor
open Go Go.Gv
set_option maxRecDepth 100000
set_option maxHeartbeats 16000000
set_option linter.unusedSimpArgs false
set_option linter.unusedVariables false
def addE (p : Pl) (s : Sh) : Pl := ⟨p.no, p.cell, p.noise, p.slab, p.jump, p.faults, p.log ++ [s]⟩
def nilP : Pl := ⟨0, 0, 0, 0, 0, 0, []⟩
/-- What adding answers. -/
def addV (p : Pl) (s : Sh) : Pl × Int := if pOk p then (if p.log.length = 32 then (nilP, 2) else if pOk (addE p s) then (addE p s, 0) else (nilP, 1)) else (nilP, 30)
def AddR (p : Pl) (s : Sh) (v : Value) (H : Hp) : Prop := ∃ a c, v = .tuple ⟨[.agg ⟨plV (addV p s).1 a c⟩, .int .i64 (addV p s).2]⟩ ∧ RdH H a ((addV p s).1.log.flatMap shV)
theorem AddR.none {p : Pl} {s : Sh} {e : Int} (h : addV p s = (nilP, e)) : AddR p s (.tuple ⟨[.agg ⟨[.int .i64 0, .int .i64 0, .int .i64 0, .int .i64 0, .int .i64 0, .int .i64 0, .slice none 0 0]⟩, .int .i64 e]⟩) [] :=
  ⟨Option.none, 0, by rw [h]; rfl, by rw [h]; exact Rd.nil⟩
theorem Rd.nolen {α : Type} {g : α → List Value} {s : Nat} {h : View} {O : Hp} {a : Option Addr} {l : List α} (hg : ∀ x, (g x).length = s + 1) (H : Rd h O a (l.flatMap g)) (ha : a = none) : l.length = 0 := by
  cases l with
  | nil => rfl
  | cons x l =>
    have := H.addr (k := 0) (by rw [List.flatMap_cons, List.length_append, hg]; omega)
    rw [ha] at this; cases this
theorem SlSl.himx {a : Option Addr} {len cap sz r : Nat} {k k' : IntKind} {x y : Int} {K : Value → Prop} (hx : x = r) (hy : y = r) (h1 : r ≤ cap) (hk : K (.slice a r r)) : SlSl a len cap none (some (.int k x)) (some (.int k' y)) sz K := by
  subst hx hy
  refine .mk 0 r r (.inl ⟨rfl, rfl⟩) (.inr ⟨k, rfl⟩) (.inr ⟨k', rfl⟩) (Nat.zero_le _) (Nat.le_refl _) h1 ?_
  have e : (if r = 0 then a else a.map (·.add (0 * sz))) = a := by
    split
    · rfl
    · cases a with
      | none => rfl
      | some a => rw [Nat.zero_mul]; show some (a.add 0) = some a; rcases a with ⟨b, o, s⟩; cases s <;> rfl
  rw [e]; exact hk
theorem AppSt.rowe {α : Type} {g : α → List Value} {ys : List α} {m cap s sb : Nat} {a : Option Addr} {P : Program} {t t2 ty e e2 : TypeId} {inf : TypeInfo} {h : View} {O : Hp} {f : Hp → Hp} {K : Value → View → Hp → Prop}
    (hO : Gv.Loc O [(sb, .cells ⟨[]⟩ e (0, 0))] f) (hr : Rd h O a (ys.flatMap g)) (hm : ys.length = m) (h0 : a = none → m = 0) (hg : ∀ x, (g x).length = s) (h1 : ∀ x, (g x).all (·.oneCell') = true) (hu : P.underlying t2 = some (.slice e2)) (hsz : inf.size = s) (z : Value) (hz : inf.zero = some z) (hzl : (cellsL z).length = s)
    (hfit : m * inf.bytes ≤ 140737488355328) (h63 : m ≤ 9223372036854775807) (hk : ∀ b' : Buf, b'.ok s (ys.flatMap g) m → K (.slice b'.a m b'.cap) h (f (b'.hp e (ys.flatMap g)))) :
    AppSt P t t2 ty e inf (.slice (some ⟨sb, 0, none⟩) 0 0) (.slice a m cap) h O K :=
  AppSt.rowm (g := g) (xs := []) (ys := ys) (n := 0) (m := m) (s := s) (b := Buf.of sb 0) (f := f) (by rw [Buf.of_hp]; exact hO) (Buf.of_ok (by simp)) hr hm h0 hg h1 hu hsz z hz hzl (by rw [Nat.zero_add]; exact hfit) (by rw [Nat.zero_add]; exact h63)
    (fun b' hb' => by rw [List.nil_append, Nat.zero_add] at *; exact hk b' hb')
theorem f39 (p : Pl) (s : Sh) (a : Option Addr) (c : Nat) (hcap : p.log.length ≤ c) (hl : p.log.length ≤ 9223372036854775807) (h : View) (O : Hp) (hr : Rd h O a (p.log.flatMap shV)) :
    GSpec Tryd.prog 39 [.agg ⟨plV p a c⟩, .agg ⟨shV s⟩] h O (New O (AddR p s)) := by
  have e45 := fun O hr => f45 p a c hl h O hr
  show GSpec Tryd.prog 39 [.agg ⟨[.int .i64 p.no, .int .i64 p.cell, .int .i64 p.noise, .int .i64 p.slab, .int .i64 p.jump, .int .i64 p.faults, .slice a p.log.length c]⟩, .agg ⟨[.int .i64 s.day, .int .i64 s.wt]⟩] h O _
  by_cases hp : pOk p
  · have hc : chkP p = 0 := if_pos hp
    rw [hc] at e45
    by_cases h32 : p.log.length = 32
    · refine GSpec.enter (fn := Tryd.f39) Tryd.func39 rfl (by kernel_rfl) ?_
      repeat' (conv => whnf
               first
               | (((with_reducible refine CallSt.rd (f := 45) (X := .int .i64 0) ?_ ?_); (· exact e45 _ (by (repeat (first | with_reducible assumption | (with_reducible apply Buf.rd; with_reducible assumption) | (with_reducible apply Rd.appL; with_reducible assumption) | (with_reducible apply Rd.appL; with_reducible apply Buf.rd; with_reducible assumption) | (with_reducible apply Rd.ofH; with_reducible assumption) | (with_reducible apply Rd.ofH1; with_reducible assumption) | with_reducible apply Rd.cons | with_reducible apply Rd.appR))))))
               | (with_reducible refine NextSt.mk ?_)
               | (with_reducible refine OnBB.tt ?_)
               | (with_reducible refine OnBB.ff ?_)
               | ((with_reducible apply Cmp.yes); · first | omega | (with_reducible assumption) | (with_reducible rfl))
               | ((with_reducible apply Cmp.no); · first | omega | (with_reducible assumption))
               | ((with_reducible apply LoadSt.box); · (repeat (first | exact List.Mem.head _ | with_reducible apply List.mem_append_right | with_reducible apply List.mem_cons_of_mem)))
               | ((with_reducible apply LoadSt.boxAgg); · (repeat (first | exact List.Mem.head _ | with_reducible apply List.mem_append_right | with_reducible apply List.mem_cons_of_mem)))
               | ((with_reducible refine AllocSt.mk ?_); intro _b _hb _hbO)
               | ((with_reducible apply StoreSt.box); (· (repeat (first | exact Upd.hd | apply Upd.tl | apply Upd.app))); (· rfl); (· rfl); (· rfl)))
      conv => whnf
      refine FinSt.new (H := []) (by (try dsimp only); (try simp only [List.cons_append, List.nil_append]); (repeat (first | with_reducible exact List.Sublist.refl _ | with_reducible exact List.nil_sublist _ | with_reducible apply List.Sublist.cons_cons | with_reducible apply sub_app | apply List.Sublist.cons_cons | apply sub_app | with_reducible apply List.Sublist.cons | with_reducible apply sub_skip))) ?_
      exact AddR.none (by unfold addV; rw [if_pos hp, if_pos h32])
    · have hn := hp.1.2.2.2.2.2.2
      have e45' := fun C O hr => f45 (addE p s) (Buf.a C) C.cap (by simp only [addE, List.length_append, List.length_singleton]; omega) h O hr
      refine GSpec.enter (fn := Tryd.f39) Tryd.func39 rfl (by kernel_rfl) ?_
      repeat' (conv => whnf
               first
               | (((with_reducible refine CallSt.rd (f := 45) (X := .int .i64 0) ?_ ?_); (· exact e45 _ (by (repeat (first | with_reducible assumption | (with_reducible apply Buf.rd; with_reducible assumption) | (with_reducible apply Rd.appL; with_reducible assumption) | (with_reducible apply Rd.appL; with_reducible apply Buf.rd; with_reducible assumption) | (with_reducible apply Rd.ofH; with_reducible assumption) | (with_reducible apply Rd.ofH1; with_reducible assumption) | with_reducible apply Rd.cons | with_reducible apply Rd.appR))))))
               | ((refine SlSl.himx rfl rfl hcap ?_))
               | ((with_reducible refine DrawSt.walk [0, 1, 2, 3, 4, 5, 6, 7, 8, 9] mixed ?_ ?_); · decide +kernel)
               | (with_reducible refine NextSt.mk ?_)
               | (with_reducible refine OnBB.ff ?_)
               | ((with_reducible apply Cmp.no); · first | omega | (with_reducible assumption))
               | ((with_reducible apply LoadSt.box); · (repeat (first | exact List.Mem.head _ | with_reducible apply List.mem_append_right | with_reducible apply List.mem_cons_of_mem)))
               | ((with_reducible apply LoadSt.boxAgg); · (repeat (first | exact List.Mem.head _ | with_reducible apply List.mem_append_right | with_reducible apply List.mem_cons_of_mem)))
               | ((with_reducible refine AllocSt.mk ?_); intro _b _hb _hbO))
      (apply AppSt.grow (l := p.log.flatMap shV) (m := 1) (ys := shV s) (z := .agg ⟨[.int .i64 0, .int .i64 0]⟩)); (· (repeat (first | with_reducible assumption | (with_reducible apply Buf.rd; with_reducible assumption) | (with_reducible apply Rd.appL; with_reducible assumption) | (with_reducible apply Rd.appL; with_reducible apply Buf.rd; with_reducible assumption) | (with_reducible apply Rd.ofH; with_reducible assumption) | (with_reducible apply Rd.ofH1; with_reducible assumption) | with_reducible apply Rd.cons | with_reducible apply Rd.appR))); (· exact flat_length (s := 2) (fun _ => rfl) _); (· omega); (· exact Srcs.rd (e2 := 57) (Rd.own0 (by (repeat (first | exact List.Mem.head _ | with_reducible apply List.mem_append_right | with_reducible apply List.mem_cons_of_mem)))) rfl rfl rfl (fun e => by cases e)); (· rfl); (· rfl); (· (show _ * 16 ≤ _; omega)); (· omega)
      intro B hB
      rw [show p.log.flatMap shV ++ shV s = (addE p s).log.flatMap shV by simp [addE], show p.log.length + 1 = (addE p s).log.length by simp [addE]] at hB ⊢
      by_cases hq : pOk (addE p s)
      · have hc' : chkP (addE p s) = 0 := if_pos hq
        rw [hc'] at e45'
        repeat' (conv => whnf
                 first
                 | (((with_reducible refine CallSt.rd (f := 45) (X := .int .i64 0) ?_ ?_); (· exact e45' B _ ((Buf.rd hB).appL))))
                 | (with_reducible refine NextSt.mk ?_)
                 | (with_reducible refine OnBB.ff ?_)
                 | ((with_reducible apply Cmp.no); · first | omega | (with_reducible assumption))
                 | ((with_reducible apply LoadSt.boxAgg); · (repeat (first | exact List.Mem.head _ | with_reducible apply List.mem_append_right | with_reducible apply List.mem_cons_of_mem)))
                 | ((with_reducible apply StoreSt.box); (· (repeat (first | exact Upd.hd | apply Upd.tl | apply Upd.app))); (· rfl); (· rfl); (· rfl)))
        conv => whnf
        refine FinSt.new (H := B.hp 57 ((addE p s).log.flatMap shV)) (by (try dsimp only); (try simp only [List.cons_append, List.nil_append]); (repeat (first | with_reducible exact List.Sublist.refl _ | with_reducible exact List.nil_sublist _ | with_reducible apply List.Sublist.cons_cons | with_reducible apply sub_app | apply List.Sublist.cons_cons | apply sub_app | with_reducible apply List.Sublist.cons | with_reducible apply sub_skip))) ?_
        have : addV p s = (addE p s, 0) := by unfold addV; rw [if_pos hp, if_neg h32, if_pos hq]
        exact ⟨B.a, B.cap, by rw [this]; rfl, by rw [this]; exact Buf.rd hB⟩
      · have hc' : chkP (addE p s) = 30 := if_neg hq
        rw [hc'] at e45'
        repeat' (conv => whnf
                 first
                 | (((with_reducible refine CallSt.rd (f := 45) (X := .int .i64 30) ?_ ?_); (· exact e45' B _ ((Buf.rd hB).appL))))
                 | (with_reducible refine NextSt.mk ?_)
                 | (with_reducible refine OnBB.tt ?_)
                 | ((with_reducible apply Cmp.yes); · first | omega | (with_reducible assumption) | (with_reducible rfl))
                 | ((with_reducible apply LoadSt.boxAgg); · (repeat (first | exact List.Mem.head _ | with_reducible apply List.mem_append_right | with_reducible apply List.mem_cons_of_mem)))
                 | ((with_reducible apply StoreSt.box); (· (repeat (first | exact Upd.hd | apply Upd.tl | apply Upd.app))); (· rfl); (· rfl); (· rfl)))
        conv => whnf
        refine FinSt.new (H := []) (by (try dsimp only); (try simp only [List.cons_append, List.nil_append]); (repeat (first | with_reducible exact List.Sublist.refl _ | with_reducible exact List.nil_sublist _ | with_reducible apply List.Sublist.cons_cons | with_reducible apply sub_app | apply List.Sublist.cons_cons | apply sub_app | with_reducible apply List.Sublist.cons | with_reducible apply sub_skip))) ?_
        exact AddR.none (by unfold addV; rw [if_pos hp, if_neg h32, if_neg hq])
  · have hc : chkP p = 30 := if_neg hp
    rw [hc] at e45
    refine GSpec.enter (fn := Tryd.f39) Tryd.func39 rfl (by kernel_rfl) ?_
    repeat' (conv => whnf
             first
             | (((with_reducible refine CallSt.rd (f := 45) (X := .int .i64 30) ?_ ?_); (· exact e45 _ (by (repeat (first | with_reducible assumption | (with_reducible apply Buf.rd; with_reducible assumption) | (with_reducible apply Rd.appL; with_reducible assumption) | (with_reducible apply Rd.appL; with_reducible apply Buf.rd; with_reducible assumption) | (with_reducible apply Rd.ofH; with_reducible assumption) | (with_reducible apply Rd.ofH1; with_reducible assumption) | with_reducible apply Rd.cons | with_reducible apply Rd.appR))))))
             | (with_reducible refine NextSt.mk ?_)
             | (with_reducible refine OnBB.tt ?_)
             | ((with_reducible apply Cmp.yes); · first | omega | (with_reducible assumption) | (with_reducible rfl))
             | ((with_reducible apply LoadSt.boxAgg); · (repeat (first | exact List.Mem.head _ | with_reducible apply List.mem_append_right | with_reducible apply List.mem_cons_of_mem)))
             | ((with_reducible refine AllocSt.mk ?_); intro _b _hb _hbO)
             | ((with_reducible apply StoreSt.box); (· (repeat (first | exact Upd.hd | apply Upd.tl | apply Upd.app))); (· rfl); (· rfl); (· rfl)))
    conv => whnf
    refine FinSt.new (H := []) (by (try dsimp only); (try simp only [List.cons_append, List.nil_append]); (repeat (first | with_reducible exact List.Sublist.refl _ | with_reducible exact List.nil_sublist _ | with_reducible apply List.Sublist.cons_cons | with_reducible apply sub_app | apply List.Sublist.cons_cons | apply sub_app | with_reducible apply List.Sublist.cons | with_reducible apply sub_skip))) ?_
    exact AddR.none (by unfold addV; rw [if_neg hp])
end Go.Proofs.YtaahjlhfmkjefaaDoor
