/- RadioDoes: the walk. -/
import Derived.Test.YtlbmlimaobkhpaaHf
import Derived.Test.YtlbmlimaobkhpaaEa
import Derived.Test.YtlbmlimaobkhpaaLe
set_option linter.unusedVariables false
set_option linter.unusedSimpArgs false
set_option linter.unusedSectionVars false
/- RadioDoes: the walk. (printed by wip/h5.py) -/
namespace Go.Gv
open Classical in
theorem perm5 (E K D F R : Hp) (x : Nat × Obj) : (E ++ (K ++ (x :: (D ++ (F ++ R))))).Perm (x :: ((D ++ K) ++ ((F ++ E) ++ R))) := by
  rw [List.perm_iff_count]
  intro a
  simp only [List.count_append, List.count_cons]
  omega
end Go.Gv
namespace Go.Proofs.Ytlbmlimaobkhpaa
open Go Go.Gv
set_option maxRecDepth 100000
set_option maxHeartbeats 16000000
set_option linter.unusedSimpArgs false
set_option linter.unusedVariables false
/-- Something that is done with a book. -/
structure Ac where
  kind : Int
  n : Int
  z : Sl Int
  s : Str
instance : Inhabited Ac := ⟨⟨0, 0, ⟨none, 0, []⟩, []⟩⟩
def acV (x : Ac) : List Value := [.int .i64 x.kind, .int .i64 x.n, .slice x.z.a x.z.l.length x.z.cap, sV x.s]
/-- A book of the program and the reference's, if there is one. -/
abbrev Ob := Option (Bk × Br × Br)
def obP1 : Ob → Value
  | none => .pointer none
  | some x => pP x.2.1.p
def obP2 : Ob → Value
  | none => .pointer none
  | some x => pP x.2.2.p
def obO (p1 p2 : Nat) (d : Dk) (sb1 wb1 sb2 wb2 : Buf) (R : Hp) : Ob → Hp
  | none => dHp ⟨p1, sb1, wb1⟩ d ++ (eHp ⟨p2, sb2, wb2⟩ d ++ R)
  | some (K, b1, b2) => bH ⟨p1, sb1, wb1⟩ d b1 K ++ (eH ⟨p2, sb2, wb2⟩ d b2 K ++ R)
def obI (B : Nat) (d : Dk) : Ob → Prop
  | none => True
  | some (K, b1, b2) => bInv B (d, K) ∧ kOk b1 K ∧ kOk b2 K
theorem obI.disk {B C : Nat} {d d' : Dk} (m : mon d d') (ho : d'.okB C) : ∀ {ob : Ob}, obI B d ob → obI C d' ob
  | none, _ => True.intro
  | some (K, b1, b2), h => ⟨h.1.disk m ho, h.2.1, h.2.2⟩
theorem kOk.b {r : Dr} {d : Dk} {b : Br} {k : Bk} (h : kOk b k) (hd : dOk r d) : bOk r d b k := ⟨hd, h.logs, h.ls⟩
theorem pick1 (l : List En) (n : Int) : pickV l [n] = [] ∨ ∃ e, e ∈ l ∧ pickV l [n] = [e] := by
  unfold pickV
  rw [List.flatMap_cons, List.flatMap_nil, List.append_nil]
  split
  · exact .inr ⟨_, getD_mem' (by omega), rfl⟩
  · exact .inl rfl
theorem perm_sw (A B C : Hp) : (A ++ (B ++ C)).Perm (B ++ (A ++ C)) := by
  rw [← List.append_assoc, ← List.append_assoc]
  exact List.perm_append_comm.append_right _
theorem f13 (o s : Int) (a : Option Addr) (cap : Nat) (l : List En) (acts : List Ac) (a2 : Option Addr) (c2 : Nat) (hl : l.length ≤ 9223372036854775807)
    (hb : ∀ e ∈ l, (i64 e.office ∧ i64 e.no) ∧ e.body.length ≤ 9223372036854775807) (hal : acts.length ≤ 9223372036854775807) (h : View) (O : Hp)
    (hac : ∀ x ∈ acts, i64 x.n ∧ x.z.l.length ≤ 9223372036854775807 ∧ Rd h [] x.z.a (x.z.l.map zV) ∧ x.s.length ≤ 9223372036854775807) (h1 : Rd h [] a (l.flatMap enV)) (h2 : Rd h [] a2 (acts.flatMap acV)) :
    GSpec Try.prog 13 [.agg ⟨[.int .i64 o, .int .i64 s, .slice a l.length cap]⟩, .slice a2 acts.length c2] h O (Ret O (.bool true)) := by
  have e52 : ∀ O, GSpec Try.prog 52 [.agg ⟨[.int .i64 o, .int .i64 s, .slice a l.length cap]⟩] h O (Ret O (.bool (decide (Wd.few ⟨o, s, a, cap, l⟩)))) := fun O => f52 ⟨o, s, a, cap, l⟩ hl (fun e he => (hb e he).2) h O (h1.more (fun _ _ e => e) fun _ _ e => by cases e)
  have rdA : ∀ O, Rd h O a2 (acts.flatMap acV) := fun O => h2.more (fun _ _ e => e) fun _ _ e => by cases e
  by_cases hf : Wd.few ⟨o, s, a, cap, l⟩
  · rw [decide_eq_true hf] at e52
    by_cases h40 : acts.length ≤ 40
    · obtain ⟨⟨hf1, hf2, hf3, hf4, hf5⟩, hf6⟩ := hf
      simp only at hf1 hf2 hf3 hf4 hf5 hf6
      have e53 : ∀ (at_ : List Int) (a3 : Option Addr) (c3 : Nat) (O : Hp), at_.length ≤ 30 → Rd h O a3 (at_.map zV) → GSpec Try.prog 53 [.agg ⟨[.int .i64 o, .int .i64 s, .slice a l.length cap]⟩, .slice a3 at_.length c3] h O (New O (RowR (pickV l at_))) := fun at_ a3 c3 O h30 h3 => f53 ⟨o, s, a, cap, l⟩ at_ a3 c3 (by omega) hl h O (h1.more (fun _ _ e => e) fun _ _ e => by cases e) h3
      have hpw : ∀ e ∈ l, enW e := fun e he => by
        have h3 := hb e he
        have h4 := hf6 e he
        exact ⟨h3.1.1, h3.1.2, by omega⟩
      have hn1 : (1 : Int) ≤ s ∧ s ≤ 4096 := by omega
      have hD : (Dk.mk0 s.toNat).okB 0 := Dk.okB.mk0 (by omega)
      refine GSpec.enter (fn := Try.f13) Try.func13 rfl (by kernel_rfl) ?_
      repeat' (conv => whnf
               first
               | ((with_reducible refine CallSt.rd (f := 17) (X := .bool true) ?_ ?_); (· exact f17 _ _))
               | ((with_reducible refine CallSt.rd (f := 52) (X := .bool true) ?_ ?_); (· exact e52 _))
               | ((apply CallSt.new (f34 s _ _); rintro _ _ hm; unfold MadeD at hm; rw [if_pos hn1] at hm; obtain ⟨r0, rfl, rfl, hr0⟩ := hm))
               | ((apply CallSt.new (f35 s _ _); rintro _ _ hm; unfold MadeE at hm; rw [if_pos hn1] at hm; obtain ⟨s0, rfl, rfl, hs0⟩ := hm))
               | (((with_reducible apply OnBB.yes); · rfl))
               | (((with_reducible apply OnBB.no); · rfl))
               | (((with_reducible apply Cmp.no); · exact fun h => h rfl))
               | (with_reducible refine NextSt.mk ?_)
               | ((with_reducible apply Cmp.no); · omega)
               | ((with_reducible apply LoadSt.box); · (repeat (first | exact List.Mem.head _ | with_reducible apply List.mem_append_right)))
               | ((with_reducible apply LoadSt.boxAgg); · (repeat (exact List.Mem.head _)))
               | ((with_reducible refine AllocSt.mk ?_); intro _b _hb _hbO))
      generalize Dk.mk0 s.toNat = d0 at *
      obtain ⟨p1, sb01, wb01⟩ := r0
      obtain ⟨p2, sb02, wb02⟩ := s0
      obtain ⟨bx, hbx⟩ : ∃ x, x = _b := ⟨_, rfl⟩
      subst hbx
      refine LoopSt.fix [4, 9, 10, 11, 12, 13, 14, 15, 16, 17, 18, 19, 49, 50, 51, 52, 53, 54, 55, 56, 57, 58, 59, 60, 61, 62, 63, 64, 65, 66, 67, 68, 69, 70, 71, 72, 73, 74, 75, 76, 77, 78, 79, 80, 81, 82, 83, 84, 85, 86, 87, 88, 89, 90, 91, 92, 93, 94, 95, 96, 97, 98, 99, 100, 101, 102, 103, 104, 105, 106, 107, 108, 109, 110, 111, 112, 113, 114, 115, 116, 117, 118, 119, 120, 121, 122, 123, 124, 125, 126, 127, 128, 129, 130, 131, 132, 133, 134, 135, 136, 137, 138, 139, 140, 141, 142, 143, 144, 145, 146, 147, 148, 149, 150, 151, 152, 153, 154, 155, 156, 157, 158, 159, 160, 161, 162, 163, 164, 165, 166, 167, 168, 169, 170, 171, 172, 173, 174, 175, 176, 177, 178, 179, 180, 181, 182, 183, 184, 185, 186, 187, 188, 189, 190, 191, 192, 193, 194, 195, 196, 197, 198, 199, 200, 201, 202, 203, 204] (fun ((k, d, sb1, wb1, sb2, wb2, ob) : Nat × Dk × Buf × Buf × Buf × Buf × Ob) => [(9, obP1 ob), (10, obP2 ob), (11, iN k)]) (fun (k, d, sb1, wb1, sb2, wb2, ob) => obO p1 p2 d sb1 wb1 sb2 wb2 ((bx, .cells ⟨[.int .i64 o, .int .i64 s, .slice a l.length cap]⟩ 65 (0, 0)) :: O) ob) (fun (k, d, sb1, wb1, sb2, wb2, ob) => k ≤ acts.length ∧ d.okB (11000 * k) ∧ dOk ⟨p1, sb1, wb1⟩ d ∧ dOk ⟨p2, sb2, wb2⟩ d ∧ obI (11000 * k) d ob) (fun (k, _) => acts.length - k) ((0, d0, sb01, wb01, sb02, wb02, none)) _ (Wk.perm (by unfold obO; exact perm_sw _ _ _)) (rfl) ?_ ?_ ?_
      · repeat' (first | exact True.intro | refine And.intro ?_ ?_ | rfl)
      · exact ⟨Nat.zero_le _, hD, hr0, hs0, True.intro⟩
      · rintro ⟨k, d, sb1, wb1, sb2, wb2, ob⟩ d2 ⟨hk, hdB, hkr, hks, hob⟩
        dsimp only at hk hdB hkr hks hob ⊢
        by_cases hkl : k < acts.length
        · have hqk := hac _ (getD_mem (d := default) hkl)
          obtain ⟨⟨ki, xn, xz, xs⟩, hx⟩ : ∃ x, x = acts.getD k default := ⟨_, rfl⟩
          rw [← hx] at hqk
          obtain ⟨hxn, hxl, hxr, hxs⟩ := hqk
          simp only at hxn hxl hxr hxs
          by_cases h24 : xz.l.length ≤ 24
          · cases ob with
            | none =>
              show overK 0 _ _ [(9, Value.pointer none), (10, Value.pointer none), (11, iN k)] _ fun s1 => codeK _ _ s1 h (dHp ⟨p1, sb1, wb1⟩ (d) ++ (eHp ⟨p2, sb2, wb2⟩ (d) ++ ((bx, .cells ⟨[.int .i64 o, .int .i64 s, .slice a l.length cap]⟩ 65 (0, 0)) :: O))) _
              by_cases h0 : ki = 0
              · subst h0
                have hmo := makeV_okB hdB o
                have hmm := mon.make d o
                have e69 := f69 ⟨p1, sb1, wb1⟩ d (11000 * k) o hdB (by omega) hkr h
                have e70 := f70 ⟨p2, sb2, wb2⟩ d (11000 * k) o hdB (by omega) hks h
                rcases hmk : makeV d o with ⟨D, k2, x2⟩
                rw [hmk] at hmo hmm e69 e70
                dsimp only at hmo
                have hDB : D.okB (11000 * (k + 1)) := hmo.mono (by omega)
                cases k2 with
                | none =>
                  repeat' (conv => whnf
                           first
                           | (((with_reducible apply LoadSt.rdg (g := acV) (s := 4)); (· rfl); (· exact rdA _); (· exact fun _ => rfl); (· decide); (· (omega))); rw [← hx])
                           | (((with_reducible apply OnBB.yes); · rfl))
                           | (((with_reducible apply OnBB.no); · rfl))
                           | ((with_reducible apply IdxSl.rdg (g := acV) (s := 4)); (· with_reducible assumption); (· exact fun _ => rfl); (· decide); (· rfl); (· with_reducible rfl); (· (omega)); · (omega))
                           | (with_reducible refine NextSt.mk ?_)
                           | ((with_reducible apply Cmp.yes); · first | omega | (with_reducible rfl))
                           | ((with_reducible apply LoadSt.box); · (repeat (first | exact List.Mem.head _ | with_reducible apply List.mem_append_right | with_reducible apply List.mem_cons_of_mem)))
                           | ((with_reducible refine AllocSt.mk ?_); intro _b _hb _hbO)
                           | ((with_reducible apply StoreSt.box); (· (repeat (exact Upd.hd))); (· rfl); (· rfl); (· rfl))
                           | ((with_reducible apply Cmp.no); · (dsimp only; omega)))
                  conv => whnf
                  with_reducible apply CallSt.loc (f := 69) (H := dHp ⟨p1, sb1, wb1⟩ d) (R := GotB ⟨p1, sb1, wb1⟩ (D, none, x2))
                  · (repeat (first | with_reducible exact Gv.Loc.hd | with_reducible apply Gv.Loc.tl))
                  · exact e69
                  rintro _ _ hg
                  obtain ⟨⟨p3, sb3, wb3⟩, hp3, hk3, rfl, rfl⟩ := hg
                  obtain rfl : p1 = p3 := hp3.symm
                  repeat' (conv => whnf
                           first
                           | (with_reducible refine NextSt.mk ?_)
                           | ((with_reducible apply LoadSt.box); · (repeat (first | exact List.Mem.head _ | with_reducible apply List.mem_append_right | with_reducible apply List.mem_cons_of_mem))))
                  conv => whnf
                  with_reducible apply CallSt.loc (f := 70) (H := eHp ⟨p2, sb2, wb2⟩ d) (R := GotE ⟨p2, sb2, wb2⟩ (D, none, x2))
                  · (repeat (first | with_reducible exact Gv.Loc.hd | with_reducible apply Gv.Loc.tl | with_reducible apply Gv.Loc.skip))
                  · exact e70
                  rintro _ _ hg
                  obtain ⟨⟨p4, sb4, wb4⟩, hp4, hk4, rfl, rfl⟩ := hg
                  obtain rfl : p2 = p4 := hp4.symm
                  repeat' (conv => whnf
                           first
                           | (((with_reducible apply OnBB.yes); · exact beq_self_eq_true _))
                           | (((with_reducible apply OnBB.no); · rfl))
                           | (((with_reducible apply Cmp.no); · exact fun h => h rfl))
                           | (((with_reducible apply CallSt.rd (f := 47)); (· (apply GSpec.locRet (H := dHp ⟨p1, sb3, wb3⟩ D)); (· (repeat (first | with_reducible exact Gv.Loc.hd | with_reducible apply Gv.Loc.tl))); (· exact f47 _ _ _))))
                           | (((with_reducible apply CallSt.rd (f := 48)); (· (apply GSpec.locRet (H := eHp ⟨p2, sb4, wb4⟩ D)); (· (repeat (first | with_reducible exact Gv.Loc.hd | with_reducible apply Gv.Loc.tl | with_reducible apply Gv.Loc.skip))); (· exact f48 _ _ _))))
                           | (with_reducible refine NextSt.mk ?_)
                           | ((with_reducible apply NW.addN); (· with_reducible rfl); (· exact natL _); (· omega)))
                  refine RoundFix.mk (k + 1, D, sb3, wb3, sb4, wb4, none) ?_ ?_ (dHp ⟨p1, sb3, wb3⟩ (D) ++ (eHp ⟨p2, sb4, wb4⟩ (D) ++ ((bx, .cells ⟨[.int .i64 o, .int .i64 s, .slice a l.length cap]⟩ 65 (0, 0)) :: O))) rfl (Wk.drop (by simp only [bH, eH, kH, kE, List.append_assoc, List.cons_append]; (try dsimp only); (try simp only [List.cons_append, List.nil_append]); (repeat (first | with_reducible exact List.Sublist.refl _ | with_reducible apply List.Sublist.cons)))) ?_
                  · dsimp only; omega
                  · repeat' (first | exact True.intro | refine And.intro ?_ ?_ | rfl)
                  · exact ⟨by omega, hDB, hk3, hk4, True.intro⟩
                | some K9 =>
                  obtain ⟨rfl, hI9⟩ := bInv.make hdB hmk
                  repeat' (conv => whnf
                           first
                           | (((with_reducible apply LoadSt.rdg (g := acV) (s := 4)); (· rfl); (· exact rdA _); (· exact fun _ => rfl); (· decide); (· (omega))); rw [← hx])
                           | (((with_reducible apply OnBB.yes); · rfl))
                           | (((with_reducible apply OnBB.no); · rfl))
                           | ((with_reducible apply IdxSl.rdg (g := acV) (s := 4)); (· with_reducible assumption); (· exact fun _ => rfl); (· decide); (· rfl); (· with_reducible rfl); (· (omega)); · (omega))
                           | (with_reducible refine NextSt.mk ?_)
                           | ((with_reducible apply Cmp.yes); · first | omega | (with_reducible rfl))
                           | ((with_reducible apply LoadSt.box); · (repeat (first | exact List.Mem.head _ | with_reducible apply List.mem_append_right | with_reducible apply List.mem_cons_of_mem)))
                           | ((with_reducible refine AllocSt.mk ?_); intro _b _hb _hbO)
                           | ((with_reducible apply StoreSt.box); (· (repeat (exact Upd.hd))); (· rfl); (· rfl); (· rfl))
                           | ((with_reducible apply Cmp.no); · (dsimp only; omega)))
                  conv => whnf
                  with_reducible apply CallSt.loc (f := 69) (H := dHp ⟨p1, sb1, wb1⟩ d) (R := GotB ⟨p1, sb1, wb1⟩ (D, some K9, 0))
                  · (repeat (first | with_reducible exact Gv.Loc.hd | with_reducible apply Gv.Loc.tl))
                  · exact e69
                  rintro _ _ hg
                  obtain ⟨⟨p3, sb3, wb3⟩, ⟨q3, lp3, ls3⟩, hp3, hk3, rfl, rfl⟩ := hg
                  obtain rfl : p1 = p3 := hp3.symm
                  repeat' (conv => whnf
                           first
                           | (with_reducible refine NextSt.mk ?_)
                           | ((with_reducible apply LoadSt.box); · (repeat (first | exact List.Mem.head _ | with_reducible apply List.mem_append_right | with_reducible apply List.mem_cons_of_mem))))
                  conv => whnf
                  with_reducible apply CallSt.loc (f := 70) (H := eHp ⟨p2, sb2, wb2⟩ d) (R := GotE ⟨p2, sb2, wb2⟩ (D, some K9, 0))
                  · (repeat (first | with_reducible exact Gv.Loc.hd | with_reducible apply Gv.Loc.tl | with_reducible apply Gv.Loc.skip))
                  · exact e70
                  rintro _ _ hg
                  obtain ⟨⟨p4, sb4, wb4⟩, ⟨q4, lp4, ls4⟩, hp4, hk4, rfl, rfl⟩ := hg
                  obtain rfl : p2 = p4 := hp4.symm
                  repeat' (conv => whnf
                           first
                           | (((with_reducible apply OnBB.yes); · exact beq_self_eq_true _))
                           | (((with_reducible apply OnBB.no); · rfl))
                           | (((with_reducible apply Cmp.no); · exact fun h => h rfl))
                           | (((with_reducible apply CallSt.rd (f := 47)); (· (apply GSpec.locRet (H := dHp ⟨p1, sb3, wb3⟩ D)); (· (repeat (first | with_reducible exact Gv.Loc.left Gv.Loc.hd | with_reducible apply Gv.Loc.tl))); (· exact f47 _ _ _))))
                           | (((with_reducible apply CallSt.rd (f := 48)); (· (apply GSpec.locRet (H := eHp ⟨p2, sb4, wb4⟩ D)); (· (repeat (first | with_reducible exact Gv.Loc.left Gv.Loc.hd | with_reducible apply Gv.Loc.tl | with_reducible apply Gv.Loc.skip))); (· exact f48 _ _ _))))
                           | (with_reducible refine NextSt.mk ?_)
                           | ((with_reducible apply NW.addN); (· with_reducible rfl); (· exact natL _); (· omega)))
                  refine RoundFix.mk (k + 1, D, sb3, wb3, sb4, wb4, some (K9, ⟨q3, lp3, ls3⟩, ⟨q4, lp4, ls4⟩)) ?_ ?_ (bH ⟨p1, sb3, wb3⟩ (D) ⟨q3, lp3, ls3⟩ K9 ++ (eH ⟨p2, sb4, wb4⟩ (D) ⟨q4, lp4, ls4⟩ K9 ++ ((bx, .cells ⟨[.int .i64 o, .int .i64 s, .slice a l.length cap]⟩ 65 (0, 0)) :: O))) rfl (Wk.drop (by simp only [bH, eH, kH, kE, List.append_assoc, List.cons_append]; (try dsimp only); (try simp only [List.cons_append, List.nil_append]); (repeat (first | with_reducible exact List.Sublist.refl _ | with_reducible apply List.Sublist.cons)))) ?_
                  · dsimp only; omega
                  · repeat' (first | exact True.intro | refine And.intro ?_ ?_ | rfl)
                  · exact ⟨by omega, hDB, hk3.d, hk4.d, hI9.disk (mon.refl _) hDB, hk3.k, hk4.k⟩
              by_cases h1 : ki = 1
              · subst h1
                have hDB : d.okB (11000 * (k + 1)) := hdB.mono (by omega)
                have e65 := f65 ⟨p1, sb1, wb1⟩ d (11000 * k) hdB (by omega) hkr h
                have e66 := f66 ⟨p2, sb2, wb2⟩ d (11000 * k) hdB (by omega) hks h
                rcases ho : openV d with ⟨k2, x2⟩
                rw [ho] at e65 e66
                cases k2 with
                | none =>
                  repeat' (conv => whnf
                           first
                           | (((with_reducible apply LoadSt.rdg (g := acV) (s := 4)); (· rfl); (· exact rdA _); (· exact fun _ => rfl); (· decide); (· (omega))); rw [← hx])
                           | (((with_reducible apply OnBB.yes); · rfl))
                           | (((with_reducible apply OnBB.no); · rfl))
                           | ((with_reducible apply IdxSl.rdg (g := acV) (s := 4)); (· with_reducible assumption); (· exact fun _ => rfl); (· decide); (· rfl); (· with_reducible rfl); (· (omega)); · (omega))
                           | (with_reducible refine NextSt.mk ?_)
                           | ((with_reducible apply Cmp.yes); · first | omega | (with_reducible rfl))
                           | ((with_reducible apply Cmp.no); · omega)
                           | ((with_reducible apply LoadSt.box); · (repeat (exact List.Mem.head _)))
                           | ((with_reducible refine AllocSt.mk ?_); intro _b _hb _hbO)
                           | ((with_reducible apply StoreSt.box); (· (repeat (exact Upd.hd))); (· rfl); (· rfl); (· rfl))
                           | ((with_reducible apply Cmp.no); · (dsimp only; omega)))
                  conv => whnf
                  apply CallSt.new (R := OpenR p1 (none, x2))
                  · apply GSpec.locNew (H := dHp ⟨p1, sb1, wb1⟩ d)
                    · (repeat (first | with_reducible exact Gv.Loc.hd | with_reducible apply Gv.Loc.tl))
                    · exact e65
                  rintro _ _ ⟨rfl, rfl⟩
                  repeat' (conv => whnf
                           first
                           | (with_reducible refine NextSt.mk ?_))
                  conv => whnf
                  apply CallSt.new (R := OpenE p2 (none, x2))
                  · apply GSpec.locNew (H := eHp ⟨p2, sb2, wb2⟩ d)
                    · (repeat (first | with_reducible exact Gv.Loc.hd | with_reducible apply Gv.Loc.tl | with_reducible apply Gv.Loc.skip))
                    · exact e66
                  rintro _ _ ⟨rfl, rfl⟩
                  rw [List.nil_append, List.nil_append]
                  repeat' (conv => whnf
                           first
                           | (((with_reducible apply OnBB.yes); · exact beq_self_eq_true _))
                           | (((with_reducible apply OnBB.no); · rfl))
                           | (((with_reducible apply Cmp.no); · exact fun h => h rfl))
                           | (((with_reducible apply CallSt.rd (f := 47)); (· (apply GSpec.locRet (H := dHp ⟨p1, sb1, wb1⟩ d)); (· (repeat (first | with_reducible exact Gv.Loc.hd | with_reducible apply Gv.Loc.tl))); (· exact f47 _ _ _))))
                           | (((with_reducible apply CallSt.rd (f := 48)); (· (apply GSpec.locRet (H := eHp ⟨p2, sb2, wb2⟩ d)); (· (repeat (first | with_reducible exact Gv.Loc.hd | with_reducible apply Gv.Loc.tl | with_reducible apply Gv.Loc.skip))); (· exact f48 _ _ _))))
                           | (with_reducible refine NextSt.mk ?_)
                           | ((with_reducible apply NW.addN); (· with_reducible rfl); (· exact natL _); (· omega)))
                  refine RoundFix.mk (k + 1, d, sb1, wb1, sb2, wb2, none) ?_ ?_ (dHp ⟨p1, sb1, wb1⟩ (d) ++ (eHp ⟨p2, sb2, wb2⟩ (d) ++ ((bx, .cells ⟨[.int .i64 o, .int .i64 s, .slice a l.length cap]⟩ 65 (0, 0)) :: O))) rfl (Wk.drop (by simp only [bH, eH, kH, kE, List.append_assoc, List.cons_append]; (try dsimp only); (try simp only [List.cons_append, List.nil_append]); (repeat (first | with_reducible exact List.Sublist.refl _ | with_reducible apply List.Sublist.cons)))) ?_
                  · dsimp only; omega
                  · repeat' (first | exact True.intro | refine And.intro ?_ ?_ | rfl)
                  · exact ⟨by omega, hDB, hkr, hks, True.intro⟩
                | some K9 =>
                  obtain ⟨rfl, hI9⟩ := bInv.open_ hdB ho
                  repeat' (conv => whnf
                           first
                           | (((with_reducible apply LoadSt.rdg (g := acV) (s := 4)); (· rfl); (· exact rdA _); (· exact fun _ => rfl); (· decide); (· (omega))); rw [← hx])
                           | (((with_reducible apply OnBB.yes); · rfl))
                           | (((with_reducible apply OnBB.no); · rfl))
                           | ((with_reducible apply IdxSl.rdg (g := acV) (s := 4)); (· with_reducible assumption); (· exact fun _ => rfl); (· decide); (· rfl); (· with_reducible rfl); (· (omega)); · (omega))
                           | (with_reducible refine NextSt.mk ?_)
                           | ((with_reducible apply Cmp.yes); · first | omega | (with_reducible rfl))
                           | ((with_reducible apply Cmp.no); · omega)
                           | ((with_reducible apply LoadSt.box); · (repeat (exact List.Mem.head _)))
                           | ((with_reducible refine AllocSt.mk ?_); intro _b _hb _hbO)
                           | ((with_reducible apply StoreSt.box); (· (repeat (exact Upd.hd))); (· rfl); (· rfl); (· rfl))
                           | ((with_reducible apply Cmp.no); · (dsimp only; omega)))
                  conv => whnf
                  apply CallSt.new (R := OpenR p1 (some K9, 0))
                  · apply GSpec.locNew (H := dHp ⟨p1, sb1, wb1⟩ d)
                    · (repeat (first | with_reducible exact Gv.Loc.hd | with_reducible apply Gv.Loc.tl))
                    · exact e65
                  rintro _ _ ⟨⟨q3, lp3, ls3⟩, hk3, rfl, rfl⟩
                  repeat' (conv => whnf
                           first
                           | (with_reducible refine NextSt.mk ?_))
                  conv => whnf
                  apply CallSt.new (R := OpenE p2 (some K9, 0))
                  · apply GSpec.locNew (H := eHp ⟨p2, sb2, wb2⟩ d)
                    · (repeat (first | with_reducible exact Gv.Loc.hd | with_reducible apply Gv.Loc.tl | with_reducible apply Gv.Loc.skip))
                    · exact e66
                  rintro _ _ ⟨⟨q4, lp4, ls4⟩, hk4, rfl, rfl⟩
                  skip
                  repeat' (conv => whnf
                           first
                           | (((with_reducible apply OnBB.yes); · exact beq_self_eq_true _))
                           | (((with_reducible apply OnBB.no); · rfl))
                           | (((with_reducible apply Cmp.no); · exact fun h => h rfl))
                           | (((with_reducible apply CallSt.rd (f := 47)); (· (apply GSpec.locRet (H := dHp ⟨p1, sb1, wb1⟩ d)); (· (repeat (first | with_reducible exact Gv.Loc.hd | with_reducible apply Gv.Loc.tl | with_reducible apply Gv.Loc.skip))); (· exact f47 _ _ _))))
                           | (((with_reducible apply CallSt.rd (f := 48)); (· (apply GSpec.locRet (H := eHp ⟨p2, sb2, wb2⟩ d)); (· (repeat (first | with_reducible exact Gv.Loc.hd | with_reducible apply Gv.Loc.tl | with_reducible apply Gv.Loc.skip))); (· exact f48 _ _ _))))
                           | (with_reducible refine NextSt.mk ?_)
                           | ((with_reducible apply NW.addN); (· with_reducible rfl); (· exact natL _); (· omega)))
                  refine RoundFix.mk (k + 1, d, sb1, wb1, sb2, wb2, some (K9, ⟨q3, lp3, ls3⟩, ⟨q4, lp4, ls4⟩)) ?_ ?_ (bH ⟨p1, sb1, wb1⟩ (d) ⟨q3, lp3, ls3⟩ K9 ++ (eH ⟨p2, sb2, wb2⟩ (d) ⟨q4, lp4, ls4⟩ K9 ++ ((bx, .cells ⟨[.int .i64 o, .int .i64 s, .slice a l.length cap]⟩ 65 (0, 0)) :: O))) rfl ((Wk.drop (O1 := kE p2 ⟨q4, lp4, ls4⟩ K9 ++ (kH p1 ⟨q3, lp3, ls3⟩ K9 ++ ((_b, Obj.cells ⟨[.int .i64 1, .int .i64 xn, .slice xz.a xz.l.length xz.cap, sV xs]⟩ 104 (0, 0)) :: (dHp ⟨p1, sb1, wb1⟩ d ++ (eHp ⟨p2, sb2, wb2⟩ d ++ ((bx, .cells ⟨[.int .i64 o, .int .i64 s, .slice a l.length cap]⟩ 65 (0, 0)) :: O)))))) (by simp only [bH, eH, kH, kE, List.append_assoc, List.cons_append]; (try dsimp only); (try simp only [List.cons_append, List.nil_append]); (repeat (with_reducible exact List.Sublist.refl _)))).trans ((Wk.perm (perm5 _ _ _ _ _ _)).trans (Wk.drop (List.Sublist.cons _ (List.Sublist.refl _))))) ?_
                  · dsimp only; omega
                  · repeat' (first | exact True.intro | refine And.intro ?_ ?_ | rfl)
                  · exact ⟨by omega, hDB, hkr, hks, hI9.disk (mon.refl _) hDB, hk3, hk4⟩
              by_cases h2 : ki = 2
              · subst h2
                rcases pick1 l xn with hP | ⟨e, hel, hP⟩
                · have e53x : ∀ (b : Nat) O, Rd h O (some ⟨b, 0, none⟩) ([xn].map zV) → GSpec Try.prog 53 [.agg ⟨[.int .i64 o, .int .i64 s, .slice a l.length cap]⟩, .slice (some ⟨b, 0, none⟩) 1 1] h O (New O (RowR ([] : List En))) := fun b O hr => by
                    have := e53 [xn] (some ⟨b, 0, none⟩) 1 O (by show 1 ≤ 30; decide) hr
                    rw [hP] at this; exact this
                  have hDB : d.okB (11000 * (k + 1)) := hdB.mono (by omega)
                  have hIB := hob.disk (mon.refl d) hDB
                  repeat' (conv => whnf
                           first
                           | ((apply CallSt.new (R := RowR ([] : List En)); (· exact e53x _ _ (Rd.own0 (List.Mem.head _))); rintro _ _ ⟨A, rfl, rfl, hA⟩))
                           | (((with_reducible refine DrawSt.walkF (A.hp 70 (([] : List En).flatMap enV)) [0, 1, 2, 3, 4, 5, 6, 7, 8, 9, 10, 11, 13, 14, 15, 16, 12, 17, 18, 19] mixed ?_ ?_ ?_); (· decide +kernel); (· exact List.sublist_append_left _ _)))
                           | (((with_reducible apply LoadSt.rdg (g := acV) (s := 4)); (· rfl); (· exact rdA _); (· exact fun _ => rfl); (· decide); (· (omega))); rw [← hx])
                           | (((with_reducible apply OnBB.yes); · exact beq_self_eq_true _))
                           | (((with_reducible apply OnBB.yes); · rfl))
                           | (((with_reducible apply OnBB.no); · rfl))
                           | (((with_reducible apply CallSt.rd (f := 47)); (· (apply GSpec.locRet (H := dHp ⟨p1, sb1, wb1⟩ d)); (· (repeat (first | with_reducible exact Gv.Loc.hd | with_reducible apply Gv.Loc.tl | with_reducible apply Gv.Loc.skip))); (· exact f47 _ _ _))))
                           | (((with_reducible apply CallSt.rd (f := 48)); (· (apply GSpec.locRet (H := eHp ⟨p2, sb2, wb2⟩ d)); (· (repeat (first | with_reducible exact Gv.Loc.hd | with_reducible apply Gv.Loc.tl | with_reducible apply Gv.Loc.skip))); (· exact f48 _ _ _))))
                           | ((with_reducible apply IdxSl.rdg (g := acV) (s := 4)); (· with_reducible assumption); (· exact fun _ => rfl); (· decide); (· rfl); (· with_reducible rfl); (· (omega)); · (omega))
                           | (with_reducible refine NextSt.mk ?_)
                           | ((with_reducible apply NW.addN); (· with_reducible rfl); (· exact natL _); (· omega))
                           | ((with_reducible apply Cmp.yes); · first | omega | (with_reducible rfl))
                           | ((with_reducible apply Cmp.no); · omega)
                           | ((with_reducible apply LoadSt.box); · (repeat (exact List.Mem.head _)))
                           | ((with_reducible apply LoadSt.boxAgg); · (repeat (first | exact List.Mem.head _ | with_reducible apply List.mem_append_right | with_reducible apply List.mem_cons_of_mem)))
                           | ((with_reducible refine AllocSt.mk ?_); intro _b _hb _hbO)
                           | ((with_reducible apply StoreSt.box); (· (repeat (exact Upd.hd))); (· rfl); (· rfl); (· rfl))
                           | ((with_reducible apply Cmp.no); · (dsimp only; omega)))
                  refine RoundFix.mk (k + 1, d, sb1, wb1, sb2, wb2, none) ?_ ?_ (dHp ⟨p1, sb1, wb1⟩ (d) ++ (eHp ⟨p2, sb2, wb2⟩ (d) ++ ((bx, .cells ⟨[.int .i64 o, .int .i64 s, .slice a l.length cap]⟩ 65 (0, 0)) :: O))) rfl (Wk.drop (by simp only [bH, eH, kH, kE, List.append_assoc, List.cons_append]; (try dsimp only); (try simp only [List.cons_append, List.nil_append]); (repeat (first | with_reducible exact List.Sublist.refl _ | with_reducible apply List.Sublist.cons | with_reducible apply sub_skip)))) ?_
                  · dsimp only; omega
                  · repeat' (first | exact True.intro | refine And.intro ?_ ?_ | rfl)
                  · exact ⟨by omega, hDB, hkr, hks, hIB⟩
                · have e53x : ∀ (b : Nat) O, Rd h O (some ⟨b, 0, none⟩) ([xn].map zV) → GSpec Try.prog 53 [.agg ⟨[.int .i64 o, .int .i64 s, .slice a l.length cap]⟩, .slice (some ⟨b, 0, none⟩) 1 1] h O (New O (RowR [e])) := fun b O hr => by
                    have := e53 [xn] (some ⟨b, 0, none⟩) 1 O (by show 1 ≤ 30; decide) hr
                    rw [hP] at this; exact this
                  have hDB : d.okB (11000 * (k + 1)) := hdB.mono (by omega)
                  have hIB := hob.disk (mon.refl d) hDB
                  repeat' (conv => whnf
                           first
                           | ((apply CallSt.new (R := RowR [e]); (· exact e53x _ _ (Rd.own0 (List.Mem.head _))); rintro _ _ ⟨A, rfl, rfl, hA⟩))
                           | (((with_reducible refine DrawSt.walkF (A.hp 70 ([e].flatMap enV)) [0, 1, 2, 3, 4, 5, 6, 7, 8, 9, 10, 11, 13, 14, 15, 16, 12, 17, 18, 19] mixed ?_ ?_ ?_); (· decide +kernel); (· exact List.sublist_append_left _ _)))
                           | (((with_reducible apply LoadSt.rdg (g := acV) (s := 4)); (· rfl); (· exact rdA _); (· exact fun _ => rfl); (· decide); (· (omega))); rw [← hx])
                           | (((with_reducible apply OnBB.yes); · exact beq_self_eq_true _))
                           | (((with_reducible apply OnBB.yes); · rfl))
                           | (((with_reducible apply OnBB.no); · rfl))
                           | (((with_reducible apply CallSt.rd (f := 47)); (· (apply GSpec.locRet (H := dHp ⟨p1, sb1, wb1⟩ d)); (· (repeat (first | with_reducible exact Gv.Loc.hd | with_reducible apply Gv.Loc.tl | with_reducible apply Gv.Loc.skip))); (· exact f47 _ _ _))))
                           | (((with_reducible apply CallSt.rd (f := 48)); (· (apply GSpec.locRet (H := eHp ⟨p2, sb2, wb2⟩ d)); (· (repeat (first | with_reducible exact Gv.Loc.hd | with_reducible apply Gv.Loc.tl | with_reducible apply Gv.Loc.skip))); (· exact f48 _ _ _))))
                           | ((with_reducible apply IdxSl.rdg (g := acV) (s := 4)); (· with_reducible assumption); (· exact fun _ => rfl); (· decide); (· rfl); (· with_reducible rfl); (· (omega)); · (omega))
                           | (with_reducible refine NextSt.mk ?_)
                           | ((with_reducible apply NW.addN); (· with_reducible rfl); (· exact natL _); (· omega))
                           | ((with_reducible apply Cmp.yes); · first | omega | (with_reducible rfl))
                           | ((with_reducible apply Cmp.no); · omega)
                           | ((with_reducible apply LoadSt.box); · (repeat (exact List.Mem.head _)))
                           | ((with_reducible apply LoadSt.boxAgg); · (repeat (first | exact List.Mem.head _ | with_reducible apply List.mem_append_right | with_reducible apply List.mem_cons_of_mem)))
                           | ((with_reducible refine AllocSt.mk ?_); intro _b _hb _hbO)
                           | ((with_reducible apply StoreSt.box); (· (repeat (exact Upd.hd))); (· rfl); (· rfl); (· rfl))
                           | ((with_reducible apply Cmp.no); · (dsimp only; omega)))
                  refine RoundFix.mk (k + 1, d, sb1, wb1, sb2, wb2, none) ?_ ?_ (dHp ⟨p1, sb1, wb1⟩ (d) ++ (eHp ⟨p2, sb2, wb2⟩ (d) ++ ((bx, .cells ⟨[.int .i64 o, .int .i64 s, .slice a l.length cap]⟩ 65 (0, 0)) :: O))) rfl (Wk.drop (by simp only [bH, eH, kH, kE, List.append_assoc, List.cons_append]; (try dsimp only); (try simp only [List.cons_append, List.nil_append]); (repeat (first | with_reducible exact List.Sublist.refl _ | with_reducible apply List.Sublist.cons | with_reducible apply sub_skip)))) ?_
                  · dsimp only; omega
                  · repeat' (first | exact True.intro | refine And.intro ?_ ?_ | rfl)
                  · exact ⟨by omega, hDB, hkr, hks, hIB⟩
              by_cases h3 : ki = 3
              · subst h3
                have hDB : d.okB (11000 * (k + 1)) := hdB.mono (by omega)
                have hIB := hob.disk (mon.refl d) hDB
                repeat' (conv => whnf
                         first
                         | (((with_reducible apply LoadSt.rdg (g := acV) (s := 4)); (· rfl); (· exact rdA _); (· exact fun _ => rfl); (· decide); (· (omega))); rw [← hx])
                         | (((with_reducible apply OnBB.yes); · exact beq_self_eq_true _))
                         | (((with_reducible apply OnBB.yes); · rfl))
                         | (((with_reducible apply OnBB.no); · rfl))
                         | (((with_reducible apply CallSt.rd (f := 47)); (· (apply GSpec.locRet (H := dHp ⟨p1, sb1, wb1⟩ d)); (· (repeat (first | with_reducible exact Gv.Loc.hd | with_reducible apply Gv.Loc.tl))); (· exact f47 _ _ _))))
                         | (((with_reducible apply CallSt.rd (f := 48)); (· (apply GSpec.locRet (H := eHp ⟨p2, sb2, wb2⟩ d)); (· (repeat (first | with_reducible exact Gv.Loc.hd | with_reducible apply Gv.Loc.tl | with_reducible apply Gv.Loc.skip))); (· exact f48 _ _ _))))
                         | ((with_reducible apply IdxSl.rdg (g := acV) (s := 4)); (· with_reducible assumption); (· exact fun _ => rfl); (· decide); (· rfl); (· with_reducible rfl); (· (omega)); · (omega))
                         | (with_reducible refine NextSt.mk ?_)
                         | ((with_reducible apply NW.addN); (· with_reducible rfl); (· exact natL _); (· omega))
                         | ((with_reducible apply Cmp.yes); · first | omega | (with_reducible rfl))
                         | ((with_reducible apply Cmp.no); · omega)
                         | ((with_reducible apply LoadSt.box); · (repeat (exact List.Mem.head _)))
                         | ((with_reducible refine AllocSt.mk ?_); intro _b _hb _hbO)
                         | ((with_reducible apply StoreSt.box); (· (repeat (exact Upd.hd))); (· rfl); (· rfl); (· rfl))
                         | ((with_reducible apply Cmp.no); · (dsimp only; omega)))
                refine RoundFix.mk (k + 1, d, sb1, wb1, sb2, wb2, none) ?_ ?_ (dHp ⟨p1, sb1, wb1⟩ (d) ++ (eHp ⟨p2, sb2, wb2⟩ (d) ++ ((bx, .cells ⟨[.int .i64 o, .int .i64 s, .slice a l.length cap]⟩ 65 (0, 0)) :: O))) rfl (Wk.drop (by simp only [bH, eH, kH, kE, List.append_assoc, List.cons_append]; (try dsimp only); (try simp only [List.cons_append, List.nil_append]); (repeat (first | with_reducible exact List.Sublist.refl _ | with_reducible apply List.Sublist.cons)))) ?_
                · dsimp only; omega
                · repeat' (first | exact True.intro | refine And.intro ?_ ?_ | rfl)
                · exact ⟨by omega, hDB, hkr, hks, hIB⟩
              by_cases h4 : ki = 4
              · subst h4
                have hok : (d.arm xn).okB (11000 * k + 1) := (show (d.arm xn).okB (11000 * k) from ⟨hdB.safe, hdB.waits, hdB.size, by show xn.toNat ≤ _; have := hxn.2; omega, hdB.few⟩).mono (by omega)
                have hDB : (d.arm xn).okB (11000 * (k + 1)) := hok.mono (by omega)
                have hIB := hob.disk (mon.arm d xn) hDB
                repeat' (conv => whnf
                         first
                         | (((with_reducible apply LoadSt.rdg (g := acV) (s := 4)); (· rfl); (· exact rdA _); (· exact fun _ => rfl); (· decide); (· (omega))); rw [← hx])
                         | (((with_reducible apply OnBB.yes); · rfl))
                         | (((with_reducible apply OnBB.no); · rfl))
                         | ((with_reducible apply IdxSl.rdg (g := acV) (s := 4)); (· with_reducible assumption); (· exact fun _ => rfl); (· decide); (· rfl); (· with_reducible rfl); (· (omega)); · (omega))
                         | (with_reducible refine NextSt.mk ?_)
                         | ((with_reducible apply Cmp.yes); · first | omega | (with_reducible rfl))
                         | ((with_reducible apply Cmp.no); · omega)
                         | ((with_reducible apply LoadSt.box); · (repeat (exact List.Mem.head _)))
                         | ((with_reducible refine AllocSt.mk ?_); intro _b _hb _hbO)
                         | ((with_reducible apply StoreSt.box); (· (repeat (exact Upd.hd))); (· rfl); (· rfl); (· rfl))
                         | ((with_reducible apply Cmp.no); · (dsimp only; omega)))
                conv => whnf
                with_reducible apply CallSt.loc (f := 43) (H := dHp ⟨p1, sb1, wb1⟩ d) (R := DR ⟨p1, sb1, wb1⟩ (d.arm xn) noV)
                · (repeat (first | with_reducible exact Gv.Loc.hd | with_reducible apply Gv.Loc.tl))
                · exact f43 _ d xn hkr _
                rintro _ _ ⟨⟨p3, sb3, wb3⟩, hp3, rfl, hk3, rfl⟩
                obtain rfl : p1 = p3 := hp3.symm
                repeat' (conv => whnf
                         first
                         | (with_reducible refine NextSt.mk ?_)
                         | ((with_reducible apply LoadSt.box); · (repeat (exact List.Mem.head _))))
                conv => whnf
                with_reducible apply CallSt.loc (f := 44) (H := eHp ⟨p2, sb2, wb2⟩ d) (R := ER ⟨p2, sb2, wb2⟩ (d.arm xn) noV)
                · (repeat (first | with_reducible exact Gv.Loc.hd | with_reducible apply Gv.Loc.tl | with_reducible apply Gv.Loc.skip))
                · exact f44 _ d xn hxn hks _
                rintro _ _ ⟨⟨p4, sb4, wb4⟩, hp4, rfl, hk4, rfl⟩
                obtain rfl : p2 = p4 := hp4.symm
                repeat' (conv => whnf
                         first
                         | (((with_reducible apply OnBB.yes); · exact beq_self_eq_true _))
                         | (((with_reducible apply OnBB.no); · rfl))
                         | (((with_reducible apply CallSt.rd (f := 47)); (· (apply GSpec.locRet (H := dHp ⟨p1, sb3, wb3⟩ (d.arm xn))); (· (repeat (first | with_reducible exact Gv.Loc.hd | with_reducible apply Gv.Loc.tl))); (· exact f47 _ _ _))))
                         | (((with_reducible apply CallSt.rd (f := 48)); (· (apply GSpec.locRet (H := eHp ⟨p2, sb4, wb4⟩ (d.arm xn))); (· (repeat (first | with_reducible exact Gv.Loc.hd | with_reducible apply Gv.Loc.tl | with_reducible apply Gv.Loc.skip))); (· exact f48 _ _ _))))
                         | (with_reducible refine NextSt.mk ?_)
                         | ((with_reducible apply NW.addN); (· with_reducible rfl); (· exact natL _); (· omega)))
                refine RoundFix.mk (k + 1, d.arm xn, sb3, wb3, sb4, wb4, none) ?_ ?_ (dHp ⟨p1, sb3, wb3⟩ (d.arm xn) ++ (eHp ⟨p2, sb4, wb4⟩ (d.arm xn) ++ ((bx, .cells ⟨[.int .i64 o, .int .i64 s, .slice a l.length cap]⟩ 65 (0, 0)) :: O))) rfl (Wk.drop (by simp only [bH, eH, kH, kE, List.append_assoc, List.cons_append]; (try dsimp only); (try simp only [List.cons_append, List.nil_append]); (repeat (first | with_reducible exact List.Sublist.refl _ | with_reducible apply List.Sublist.cons)))) ?_
                · dsimp only; omega
                · repeat' (first | exact True.intro | refine And.intro ?_ ?_ | rfl)
                · exact ⟨by omega, hDB, hk3, hk4, hIB⟩
              by_cases h5 : ki = 5
              · subst h5
                have hok : (d.restart xs).okB (11000 * k + 1) := okB.restart hdB xs
                have hDB : (d.restart xs).okB (11000 * (k + 1)) := hok.mono (by omega)
                have hIB := hob.disk (mon.restart d xs) hDB
                repeat' (conv => whnf
                         first
                         | (((with_reducible apply LoadSt.rdg (g := acV) (s := 4)); (· rfl); (· exact rdA _); (· exact fun _ => rfl); (· decide); (· (omega))); rw [← hx])
                         | (((with_reducible apply OnBB.yes); · rfl))
                         | (((with_reducible apply OnBB.no); · rfl))
                         | ((with_reducible apply IdxSl.rdg (g := acV) (s := 4)); (· with_reducible assumption); (· exact fun _ => rfl); (· decide); (· rfl); (· with_reducible rfl); (· (omega)); · (omega))
                         | (with_reducible refine NextSt.mk ?_)
                         | ((with_reducible apply Cmp.yes); · first | omega | (with_reducible rfl))
                         | ((with_reducible apply Cmp.no); · omega)
                         | ((with_reducible apply LoadSt.box); · (repeat (exact List.Mem.head _)))
                         | ((with_reducible refine AllocSt.mk ?_); intro _b _hb _hbO)
                         | ((with_reducible apply StoreSt.box); (· (repeat (exact Upd.hd))); (· rfl); (· rfl); (· rfl))
                         | ((with_reducible apply Cmp.no); · (dsimp only; omega)))
                conv => whnf
                with_reducible apply CallSt.loc (f := 45) (H := dHp ⟨p1, sb1, wb1⟩ d) (R := DR ⟨p1, sb1, wb1⟩ (d.restart xs) noV)
                · (repeat (first | with_reducible exact Gv.Loc.hd | with_reducible apply Gv.Loc.tl))
                · exact f45 _ d xs (hdB.ok (by omega)) hxs hkr _
                rintro _ _ ⟨⟨p3, sb3, wb3⟩, hp3, rfl, hk3, rfl⟩
                obtain rfl : p1 = p3 := hp3.symm
                repeat' (conv => whnf
                         first
                         | (with_reducible refine NextSt.mk ?_)
                         | ((with_reducible apply LoadSt.box); · (repeat (exact List.Mem.head _))))
                conv => whnf
                with_reducible apply CallSt.loc (f := 46) (H := eHp ⟨p2, sb2, wb2⟩ d) (R := ER ⟨p2, sb2, wb2⟩ (d.restart xs) noV)
                · (repeat (first | with_reducible exact Gv.Loc.hd | with_reducible apply Gv.Loc.tl | with_reducible apply Gv.Loc.skip))
                · exact f46 _ d xs (hdB.ok (by omega)) hxs hks _
                rintro _ _ ⟨⟨p4, sb4, wb4⟩, hp4, rfl, hk4, rfl⟩
                obtain rfl : p2 = p4 := hp4.symm
                repeat' (conv => whnf
                         first
                         | (((with_reducible apply OnBB.yes); · exact beq_self_eq_true _))
                         | (((with_reducible apply OnBB.no); · rfl))
                         | (((with_reducible apply CallSt.rd (f := 47)); (· (apply GSpec.locRet (H := dHp ⟨p1, sb3, wb3⟩ (d.restart xs))); (· (repeat (first | with_reducible exact Gv.Loc.hd | with_reducible apply Gv.Loc.tl))); (· exact f47 _ _ _))))
                         | (((with_reducible apply CallSt.rd (f := 48)); (· (apply GSpec.locRet (H := eHp ⟨p2, sb4, wb4⟩ (d.restart xs))); (· (repeat (first | with_reducible exact Gv.Loc.hd | with_reducible apply Gv.Loc.tl | with_reducible apply Gv.Loc.skip))); (· exact f48 _ _ _))))
                         | (with_reducible refine NextSt.mk ?_)
                         | ((with_reducible apply NW.addN); (· with_reducible rfl); (· exact natL _); (· omega)))
                refine RoundFix.mk (k + 1, d.restart xs, sb3, wb3, sb4, wb4, none) ?_ ?_ (dHp ⟨p1, sb3, wb3⟩ (d.restart xs) ++ (eHp ⟨p2, sb4, wb4⟩ (d.restart xs) ++ ((bx, .cells ⟨[.int .i64 o, .int .i64 s, .slice a l.length cap]⟩ 65 (0, 0)) :: O))) rfl (Wk.drop (by simp only [bH, eH, kH, kE, List.append_assoc, List.cons_append]; (try dsimp only); (try simp only [List.cons_append, List.nil_append]); (repeat (first | with_reducible exact List.Sublist.refl _ | with_reducible apply List.Sublist.cons)))) ?_
                · dsimp only; omega
                · repeat' (first | exact True.intro | refine And.intro ?_ ?_ | rfl)
                · exact ⟨by omega, hDB, hk3, hk4, hIB⟩
              by_cases h6 : ki = 6
              · subst h6
                have hDB : d.okB (11000 * (k + 1)) := hdB.mono (by omega)
                have hIB := hob.disk (mon.refl d) hDB
                repeat' (conv => whnf
                         first
                         | (((with_reducible apply LoadSt.rdg (g := acV) (s := 4)); (· rfl); (· exact rdA _); (· exact fun _ => rfl); (· decide); (· (omega))); rw [← hx])
                         | (((with_reducible apply OnBB.yes); · rfl))
                         | (((with_reducible apply OnBB.no); · rfl))
                         | ((with_reducible apply IdxSl.rdg (g := acV) (s := 4)); (· with_reducible assumption); (· exact fun _ => rfl); (· decide); (· rfl); (· with_reducible rfl); (· (omega)); · (omega))
                         | (with_reducible refine NextSt.mk ?_)
                         | ((with_reducible apply Cmp.yes); · first | omega | (with_reducible rfl))
                         | ((with_reducible apply Cmp.no); · omega)
                         | ((with_reducible apply LoadSt.box); · (repeat (exact List.Mem.head _)))
                         | ((with_reducible refine AllocSt.mk ?_); intro _b _hb _hbO)
                         | ((with_reducible apply StoreSt.box); (· (repeat (exact Upd.hd))); (· rfl); (· rfl); (· rfl))
                         | ((with_reducible apply Cmp.no); · (dsimp only; omega)))
                conv => whnf
                apply CallSt.rd (f := 51) (X := .bool true)
                · apply f51 ⟨p1, sb1, wb1⟩ ⟨p2, sb2, wb2⟩ d
                  · (repeat (first | with_reducible exact Gv.Loc.hd | with_reducible apply Gv.Loc.tl))
                  · (repeat (first | with_reducible exact Gv.Loc.hd | with_reducible apply Gv.Loc.tl | with_reducible apply Gv.Loc.skip))
                  · exact hdB.ok (by omega)
                  · exact hkr
                  · exact hks
                repeat' (conv => whnf
                         first
                         | (((with_reducible apply OnBB.yes); · exact beq_self_eq_true _))
                         | (((with_reducible apply OnBB.yes); · rfl))
                         | (((with_reducible apply OnBB.no); · rfl))
                         | (((with_reducible apply CallSt.rd (f := 47)); (· (apply GSpec.locRet (H := dHp ⟨p1, sb1, wb1⟩ d)); (· (repeat (first | with_reducible exact Gv.Loc.hd | with_reducible apply Gv.Loc.tl))); (· exact f47 _ _ _))))
                         | (((with_reducible apply CallSt.rd (f := 48)); (· (apply GSpec.locRet (H := eHp ⟨p2, sb2, wb2⟩ d)); (· (repeat (first | with_reducible exact Gv.Loc.hd | with_reducible apply Gv.Loc.tl | with_reducible apply Gv.Loc.skip))); (· exact f48 _ _ _))))
                         | (with_reducible refine NextSt.mk ?_)
                         | ((with_reducible apply NW.addN); (· with_reducible rfl); (· exact natL _); (· omega)))
                refine RoundFix.mk (k + 1, d, sb1, wb1, sb2, wb2, none) ?_ ?_ (dHp ⟨p1, sb1, wb1⟩ (d) ++ (eHp ⟨p2, sb2, wb2⟩ (d) ++ ((bx, .cells ⟨[.int .i64 o, .int .i64 s, .slice a l.length cap]⟩ 65 (0, 0)) :: O))) rfl (Wk.drop (by simp only [bH, eH, kH, kE, List.append_assoc, List.cons_append]; (try dsimp only); (try simp only [List.cons_append, List.nil_append]); (repeat (first | with_reducible exact List.Sublist.refl _ | with_reducible apply List.Sublist.cons)))) ?_
                · dsimp only; omega
                · repeat' (first | exact True.intro | refine And.intro ?_ ?_ | rfl)
                · exact ⟨by omega, hDB, hkr, hks, hIB⟩
              have hDB : d.okB (11000 * (k + 1)) := hdB.mono (by omega)
              have hIB := hob.disk (mon.refl d) hDB
              repeat' (conv => whnf
                       first
                       | (((with_reducible apply LoadSt.rdg (g := acV) (s := 4)); (· rfl); (· exact rdA _); (· exact fun _ => rfl); (· decide); (· (omega))); rw [← hx])
                       | (((with_reducible apply OnBB.yes); · exact beq_self_eq_true _))
                       | (((with_reducible apply OnBB.yes); · rfl))
                       | (((with_reducible apply OnBB.no); · rfl))
                       | (((with_reducible apply CallSt.rd (f := 47)); (· (apply GSpec.locRet (H := dHp ⟨p1, sb1, wb1⟩ d)); (· (repeat (first | with_reducible exact Gv.Loc.hd | with_reducible apply Gv.Loc.tl))); (· exact f47 _ _ _))))
                       | (((with_reducible apply CallSt.rd (f := 48)); (· (apply GSpec.locRet (H := eHp ⟨p2, sb2, wb2⟩ d)); (· (repeat (first | with_reducible exact Gv.Loc.hd | with_reducible apply Gv.Loc.tl | with_reducible apply Gv.Loc.skip))); (· exact f48 _ _ _))))
                       | ((with_reducible apply IdxSl.rdg (g := acV) (s := 4)); (· with_reducible assumption); (· exact fun _ => rfl); (· decide); (· rfl); (· with_reducible rfl); (· (omega)); · (omega))
                       | (with_reducible refine NextSt.mk ?_)
                       | ((with_reducible apply NW.addN); (· with_reducible rfl); (· exact natL _); (· omega))
                       | ((with_reducible apply Cmp.yes); · omega)
                       | ((with_reducible apply Cmp.no); · omega)
                       | ((with_reducible apply LoadSt.box); · (repeat (exact List.Mem.head _)))
                       | ((with_reducible refine AllocSt.mk ?_); intro _b _hb _hbO)
                       | ((with_reducible apply StoreSt.box); (· (repeat (exact Upd.hd))); (· rfl); (· rfl); (· rfl))
                       | ((with_reducible apply Cmp.no); · (dsimp only; omega)))
              refine RoundFix.mk (k + 1, d, sb1, wb1, sb2, wb2, none) ?_ ?_ (dHp ⟨p1, sb1, wb1⟩ (d) ++ (eHp ⟨p2, sb2, wb2⟩ (d) ++ ((bx, .cells ⟨[.int .i64 o, .int .i64 s, .slice a l.length cap]⟩ 65 (0, 0)) :: O))) rfl (Wk.drop (by simp only [bH, eH, kH, kE, List.append_assoc, List.cons_append]; (try dsimp only); (try simp only [List.cons_append, List.nil_append]); (repeat (first | with_reducible exact List.Sublist.refl _ | with_reducible apply List.Sublist.cons)))) ?_
              · dsimp only; omega
              · repeat' (first | exact True.intro | refine And.intro ?_ ?_ | rfl)
              · exact ⟨by omega, hDB, hkr, hks, hIB⟩
            | some x =>
              obtain ⟨K, ⟨q1, lp1, ls1⟩, ⟨q2, lp2, ls2⟩⟩ := x
              have hob : obI (11000 * k) d (some (K, ⟨q1, lp1, ls1⟩, ⟨q2, lp2, ls2⟩)) := hob
              show overK 0 _ _ [(9, pP q1), (10, pP q2), (11, iN k)] _ fun s1 => codeK _ _ s1 h (bH ⟨p1, sb1, wb1⟩ (d) ⟨q1, lp1, ls1⟩ K ++ (eH ⟨p2, sb2, wb2⟩ (d) ⟨q2, lp2, ls2⟩ K ++ ((bx, .cells ⟨[.int .i64 o, .int .i64 s, .slice a l.length cap]⟩ 65 (0, 0)) :: O))) _
              by_cases h0 : ki = 0
              · subst h0
                have hmo := makeV_okB hdB o
                have hmm := mon.make d o
                have e69 := f69 ⟨p1, sb1, wb1⟩ d (11000 * k) o hdB (by omega) hkr h
                have e70 := f70 ⟨p2, sb2, wb2⟩ d (11000 * k) o hdB (by omega) hks h
                rcases hmk : makeV d o with ⟨D, k2, x2⟩
                rw [hmk] at hmo hmm e69 e70
                dsimp only at hmo
                have hDB : D.okB (11000 * (k + 1)) := hmo.mono (by omega)
                cases k2 with
                | none =>
                  repeat' (conv => whnf
                           first
                           | (((with_reducible apply LoadSt.rdg (g := acV) (s := 4)); (· rfl); (· exact rdA _); (· exact fun _ => rfl); (· decide); (· (omega))); rw [← hx])
                           | (((with_reducible apply OnBB.yes); · rfl))
                           | (((with_reducible apply OnBB.no); · rfl))
                           | ((with_reducible apply IdxSl.rdg (g := acV) (s := 4)); (· with_reducible assumption); (· exact fun _ => rfl); (· decide); (· rfl); (· with_reducible rfl); (· (omega)); · (omega))
                           | (with_reducible refine NextSt.mk ?_)
                           | ((with_reducible apply Cmp.yes); · first | omega | (with_reducible rfl))
                           | ((with_reducible apply LoadSt.box); · (repeat (first | exact List.Mem.head _ | with_reducible apply List.mem_append_right | with_reducible apply List.mem_cons_of_mem)))
                           | ((with_reducible refine AllocSt.mk ?_); intro _b _hb _hbO)
                           | ((with_reducible apply StoreSt.box); (· (repeat (exact Upd.hd))); (· rfl); (· rfl); (· rfl))
                           | ((with_reducible apply Cmp.no); · (dsimp only; omega)))
                  conv => whnf
                  with_reducible apply CallSt.loc (f := 69) (H := dHp ⟨p1, sb1, wb1⟩ d) (R := GotB ⟨p1, sb1, wb1⟩ (D, none, x2))
                  · (repeat (first | with_reducible exact Gv.Loc.left Gv.Loc.hd | with_reducible apply Gv.Loc.tl))
                  · exact e69
                  rintro _ _ hg
                  obtain ⟨⟨p3, sb3, wb3⟩, hp3, hk3, rfl, rfl⟩ := hg
                  obtain rfl : p1 = p3 := hp3.symm
                  repeat' (conv => whnf
                           first
                           | (with_reducible refine NextSt.mk ?_)
                           | ((with_reducible apply LoadSt.box); · (repeat (first | exact List.Mem.head _ | with_reducible apply List.mem_append_right | with_reducible apply List.mem_cons_of_mem))))
                  conv => whnf
                  with_reducible apply CallSt.loc (f := 70) (H := eHp ⟨p2, sb2, wb2⟩ d) (R := GotE ⟨p2, sb2, wb2⟩ (D, none, x2))
                  · (repeat (first | with_reducible exact Gv.Loc.left Gv.Loc.hd | with_reducible apply Gv.Loc.tl | with_reducible apply Gv.Loc.skip))
                  · exact e70
                  rintro _ _ hg
                  obtain ⟨⟨p4, sb4, wb4⟩, hp4, hk4, rfl, rfl⟩ := hg
                  obtain rfl : p2 = p4 := hp4.symm
                  repeat' (conv => whnf
                           first
                           | (((with_reducible apply OnBB.yes); · exact beq_self_eq_true _))
                           | (((with_reducible apply OnBB.no); · rfl))
                           | (((with_reducible apply Cmp.no); · exact fun h => h rfl))
                           | (((with_reducible apply CallSt.rd (f := 47)); (· (apply GSpec.locRet (H := dHp ⟨p1, sb3, wb3⟩ D)); (· (repeat (first | with_reducible exact Gv.Loc.left Gv.Loc.hd | with_reducible apply Gv.Loc.tl))); (· exact f47 _ _ _))))
                           | (((with_reducible apply CallSt.rd (f := 48)); (· (apply GSpec.locRet (H := eHp ⟨p2, sb4, wb4⟩ D)); (· (repeat (first | with_reducible exact Gv.Loc.left Gv.Loc.hd | with_reducible apply Gv.Loc.tl | with_reducible apply Gv.Loc.skip))); (· exact f48 _ _ _))))
                           | (with_reducible refine NextSt.mk ?_)
                           | ((with_reducible apply NW.addN); (· with_reducible rfl); (· exact natL _); (· omega)))
                  refine RoundFix.mk (k + 1, D, sb3, wb3, sb4, wb4, none) ?_ ?_ (dHp ⟨p1, sb3, wb3⟩ (D) ++ (eHp ⟨p2, sb4, wb4⟩ (D) ++ ((bx, .cells ⟨[.int .i64 o, .int .i64 s, .slice a l.length cap]⟩ 65 (0, 0)) :: O))) rfl (Wk.drop (by simp only [bH, eH, kH, kE, List.append_assoc, List.cons_append]; (try dsimp only); (try simp only [List.cons_append, List.nil_append]); (repeat (first | with_reducible exact List.Sublist.refl _ | with_reducible apply sub_app | with_reducible apply List.Sublist.cons | with_reducible apply sub_skip)))) ?_
                  · dsimp only; omega
                  · repeat' (first | exact True.intro | refine And.intro ?_ ?_ | rfl)
                  · exact ⟨by omega, hDB, hk3, hk4, True.intro⟩
                | some K9 =>
                  obtain ⟨rfl, hI9⟩ := bInv.make hdB hmk
                  repeat' (conv => whnf
                           first
                           | (((with_reducible apply LoadSt.rdg (g := acV) (s := 4)); (· rfl); (· exact rdA _); (· exact fun _ => rfl); (· decide); (· (omega))); rw [← hx])
                           | (((with_reducible apply OnBB.yes); · rfl))
                           | (((with_reducible apply OnBB.no); · rfl))
                           | ((with_reducible apply IdxSl.rdg (g := acV) (s := 4)); (· with_reducible assumption); (· exact fun _ => rfl); (· decide); (· rfl); (· with_reducible rfl); (· (omega)); · (omega))
                           | (with_reducible refine NextSt.mk ?_)
                           | ((with_reducible apply Cmp.yes); · first | omega | (with_reducible rfl))
                           | ((with_reducible apply LoadSt.box); · (repeat (first | exact List.Mem.head _ | with_reducible apply List.mem_append_right | with_reducible apply List.mem_cons_of_mem)))
                           | ((with_reducible refine AllocSt.mk ?_); intro _b _hb _hbO)
                           | ((with_reducible apply StoreSt.box); (· (repeat (exact Upd.hd))); (· rfl); (· rfl); (· rfl))
                           | ((with_reducible apply Cmp.no); · (dsimp only; omega)))
                  conv => whnf
                  with_reducible apply CallSt.loc (f := 69) (H := dHp ⟨p1, sb1, wb1⟩ d) (R := GotB ⟨p1, sb1, wb1⟩ (D, some K9, 0))
                  · (repeat (first | with_reducible exact Gv.Loc.left Gv.Loc.hd | with_reducible apply Gv.Loc.tl))
                  · exact e69
                  rintro _ _ hg
                  obtain ⟨⟨p3, sb3, wb3⟩, ⟨q3, lp3, ls3⟩, hp3, hk3, rfl, rfl⟩ := hg
                  obtain rfl : p1 = p3 := hp3.symm
                  repeat' (conv => whnf
                           first
                           | (with_reducible refine NextSt.mk ?_)
                           | ((with_reducible apply LoadSt.box); · (repeat (first | exact List.Mem.head _ | with_reducible apply List.mem_append_right | with_reducible apply List.mem_cons_of_mem))))
                  conv => whnf
                  with_reducible apply CallSt.loc (f := 70) (H := eHp ⟨p2, sb2, wb2⟩ d) (R := GotE ⟨p2, sb2, wb2⟩ (D, some K9, 0))
                  · (repeat (first | with_reducible exact Gv.Loc.left Gv.Loc.hd | with_reducible apply Gv.Loc.tl | with_reducible apply Gv.Loc.skip))
                  · exact e70
                  rintro _ _ hg
                  obtain ⟨⟨p4, sb4, wb4⟩, ⟨q4, lp4, ls4⟩, hp4, hk4, rfl, rfl⟩ := hg
                  obtain rfl : p2 = p4 := hp4.symm
                  repeat' (conv => whnf
                           first
                           | (((with_reducible apply OnBB.yes); · exact beq_self_eq_true _))
                           | (((with_reducible apply OnBB.no); · rfl))
                           | (((with_reducible apply Cmp.no); · exact fun h => h rfl))
                           | (((with_reducible apply CallSt.rd (f := 47)); (· (apply GSpec.locRet (H := dHp ⟨p1, sb3, wb3⟩ D)); (· (repeat (first | with_reducible exact Gv.Loc.left (Gv.Loc.left Gv.Loc.hd) | with_reducible apply Gv.Loc.tl))); (· exact f47 _ _ _))))
                           | (((with_reducible apply CallSt.rd (f := 48)); (· (apply GSpec.locRet (H := eHp ⟨p2, sb4, wb4⟩ D)); (· (repeat (first | with_reducible exact Gv.Loc.left (Gv.Loc.left Gv.Loc.hd) | with_reducible apply Gv.Loc.tl | with_reducible apply Gv.Loc.skip))); (· exact f48 _ _ _))))
                           | (with_reducible refine NextSt.mk ?_)
                           | ((with_reducible apply NW.addN); (· with_reducible rfl); (· exact natL _); (· omega)))
                  refine RoundFix.mk (k + 1, D, sb3, wb3, sb4, wb4, some (K9, ⟨q3, lp3, ls3⟩, ⟨q4, lp4, ls4⟩)) ?_ ?_ (bH ⟨p1, sb3, wb3⟩ (D) ⟨q3, lp3, ls3⟩ K9 ++ (eH ⟨p2, sb4, wb4⟩ (D) ⟨q4, lp4, ls4⟩ K9 ++ ((bx, .cells ⟨[.int .i64 o, .int .i64 s, .slice a l.length cap]⟩ 65 (0, 0)) :: O))) rfl (Wk.drop (by simp only [bH, eH, kH, kE, List.append_assoc, List.cons_append]; (try dsimp only); (try simp only [List.cons_append, List.nil_append]); (repeat (first | with_reducible exact List.Sublist.refl _ | with_reducible apply List.Sublist.cons_cons | with_reducible apply sub_app | with_reducible apply List.Sublist.cons | with_reducible apply sub_skip)))) ?_
                  · dsimp only; omega
                  · repeat' (first | exact True.intro | refine And.intro ?_ ?_ | rfl)
                  · exact ⟨by omega, hDB, hk3.d, hk4.d, hI9.disk (mon.refl _) hDB, hk3.k, hk4.k⟩
              by_cases h1 : ki = 1
              · subst h1
                have hDB : d.okB (11000 * (k + 1)) := hdB.mono (by omega)
                have e65 := f65 ⟨p1, sb1, wb1⟩ d (11000 * k) hdB (by omega) hkr h
                have e66 := f66 ⟨p2, sb2, wb2⟩ d (11000 * k) hdB (by omega) hks h
                rcases ho : openV d with ⟨k2, x2⟩
                rw [ho] at e65 e66
                cases k2 with
                | none =>
                  repeat' (conv => whnf
                           first
                           | (((with_reducible apply LoadSt.rdg (g := acV) (s := 4)); (· rfl); (· exact rdA _); (· exact fun _ => rfl); (· decide); (· (omega))); rw [← hx])
                           | (((with_reducible apply OnBB.yes); · rfl))
                           | (((with_reducible apply OnBB.no); · rfl))
                           | ((with_reducible apply IdxSl.rdg (g := acV) (s := 4)); (· with_reducible assumption); (· exact fun _ => rfl); (· decide); (· rfl); (· with_reducible rfl); (· (omega)); · (omega))
                           | (with_reducible refine NextSt.mk ?_)
                           | ((with_reducible apply Cmp.yes); · first | omega | (with_reducible rfl))
                           | ((with_reducible apply Cmp.no); · omega)
                           | ((with_reducible apply LoadSt.box); · (repeat (exact List.Mem.head _)))
                           | ((with_reducible refine AllocSt.mk ?_); intro _b _hb _hbO)
                           | ((with_reducible apply StoreSt.box); (· (repeat (exact Upd.hd))); (· rfl); (· rfl); (· rfl))
                           | ((with_reducible apply Cmp.no); · (dsimp only; omega)))
                  conv => whnf
                  apply CallSt.new (R := OpenR p1 (none, x2))
                  · apply GSpec.locNew (H := dHp ⟨p1, sb1, wb1⟩ d)
                    · (repeat (first | with_reducible exact Gv.Loc.left Gv.Loc.hd | with_reducible apply Gv.Loc.tl))
                    · exact e65
                  rintro _ _ ⟨rfl, rfl⟩
                  repeat' (conv => whnf
                           first
                           | (with_reducible refine NextSt.mk ?_))
                  conv => whnf
                  apply CallSt.new (R := OpenE p2 (none, x2))
                  · apply GSpec.locNew (H := eHp ⟨p2, sb2, wb2⟩ d)
                    · (repeat (first | with_reducible exact Gv.Loc.left Gv.Loc.hd | with_reducible apply Gv.Loc.tl | with_reducible apply Gv.Loc.skip))
                    · exact e66
                  rintro _ _ ⟨rfl, rfl⟩
                  rw [List.nil_append, List.nil_append]
                  repeat' (conv => whnf
                           first
                           | (((with_reducible apply OnBB.yes); · exact beq_self_eq_true _))
                           | (((with_reducible apply OnBB.no); · rfl))
                           | (((with_reducible apply Cmp.no); · exact fun h => h rfl))
                           | (((with_reducible apply CallSt.rd (f := 47)); (· (apply GSpec.locRet (H := dHp ⟨p1, sb1, wb1⟩ d)); (· (repeat (first | with_reducible exact Gv.Loc.left Gv.Loc.hd | with_reducible apply Gv.Loc.tl))); (· exact f47 _ _ _))))
                           | (((with_reducible apply CallSt.rd (f := 48)); (· (apply GSpec.locRet (H := eHp ⟨p2, sb2, wb2⟩ d)); (· (repeat (first | with_reducible exact Gv.Loc.left Gv.Loc.hd | with_reducible apply Gv.Loc.tl | with_reducible apply Gv.Loc.skip))); (· exact f48 _ _ _))))
                           | (with_reducible refine NextSt.mk ?_)
                           | ((with_reducible apply NW.addN); (· with_reducible rfl); (· exact natL _); (· omega)))
                  refine RoundFix.mk (k + 1, d, sb1, wb1, sb2, wb2, none) ?_ ?_ (dHp ⟨p1, sb1, wb1⟩ (d) ++ (eHp ⟨p2, sb2, wb2⟩ (d) ++ ((bx, .cells ⟨[.int .i64 o, .int .i64 s, .slice a l.length cap]⟩ 65 (0, 0)) :: O))) rfl (Wk.drop (by simp only [bH, eH, kH, kE, List.append_assoc, List.cons_append]; (try dsimp only); (try simp only [List.cons_append, List.nil_append]); (repeat (first | with_reducible exact List.Sublist.refl _ | with_reducible apply sub_app | with_reducible apply List.Sublist.cons | with_reducible apply sub_skip)))) ?_
                  · dsimp only; omega
                  · repeat' (first | exact True.intro | refine And.intro ?_ ?_ | rfl)
                  · exact ⟨by omega, hDB, hkr, hks, True.intro⟩
                | some K9 =>
                  obtain ⟨rfl, hI9⟩ := bInv.open_ hdB ho
                  repeat' (conv => whnf
                           first
                           | (((with_reducible apply LoadSt.rdg (g := acV) (s := 4)); (· rfl); (· exact rdA _); (· exact fun _ => rfl); (· decide); (· (omega))); rw [← hx])
                           | (((with_reducible apply OnBB.yes); · rfl))
                           | (((with_reducible apply OnBB.no); · rfl))
                           | ((with_reducible apply IdxSl.rdg (g := acV) (s := 4)); (· with_reducible assumption); (· exact fun _ => rfl); (· decide); (· rfl); (· with_reducible rfl); (· (omega)); · (omega))
                           | (with_reducible refine NextSt.mk ?_)
                           | ((with_reducible apply Cmp.yes); · first | omega | (with_reducible rfl))
                           | ((with_reducible apply Cmp.no); · omega)
                           | ((with_reducible apply LoadSt.box); · (repeat (exact List.Mem.head _)))
                           | ((with_reducible refine AllocSt.mk ?_); intro _b _hb _hbO)
                           | ((with_reducible apply StoreSt.box); (· (repeat (exact Upd.hd))); (· rfl); (· rfl); (· rfl))
                           | ((with_reducible apply Cmp.no); · (dsimp only; omega)))
                  conv => whnf
                  apply CallSt.new (R := OpenR p1 (some K9, 0))
                  · apply GSpec.locNew (H := dHp ⟨p1, sb1, wb1⟩ d)
                    · (repeat (first | with_reducible exact Gv.Loc.left Gv.Loc.hd | with_reducible apply Gv.Loc.tl))
                    · exact e65
                  rintro _ _ ⟨⟨q3, lp3, ls3⟩, hk3, rfl, rfl⟩
                  repeat' (conv => whnf
                           first
                           | (with_reducible refine NextSt.mk ?_))
                  conv => whnf
                  apply CallSt.new (R := OpenE p2 (some K9, 0))
                  · apply GSpec.locNew (H := eHp ⟨p2, sb2, wb2⟩ d)
                    · (repeat (first | with_reducible exact Gv.Loc.left Gv.Loc.hd | with_reducible apply Gv.Loc.tl | with_reducible apply Gv.Loc.skip))
                    · exact e66
                  rintro _ _ ⟨⟨q4, lp4, ls4⟩, hk4, rfl, rfl⟩
                  skip
                  repeat' (conv => whnf
                           first
                           | (((with_reducible apply OnBB.yes); · exact beq_self_eq_true _))
                           | (((with_reducible apply OnBB.no); · rfl))
                           | (((with_reducible apply Cmp.no); · exact fun h => h rfl))
                           | (((with_reducible apply CallSt.rd (f := 47)); (· (apply GSpec.locRet (H := dHp ⟨p1, sb1, wb1⟩ d)); (· (repeat (first | with_reducible exact Gv.Loc.left Gv.Loc.hd | with_reducible apply Gv.Loc.tl | with_reducible apply Gv.Loc.skip))); (· exact f47 _ _ _))))
                           | (((with_reducible apply CallSt.rd (f := 48)); (· (apply GSpec.locRet (H := eHp ⟨p2, sb2, wb2⟩ d)); (· (repeat (first | with_reducible exact Gv.Loc.left Gv.Loc.hd | with_reducible apply Gv.Loc.tl | with_reducible apply Gv.Loc.skip))); (· exact f48 _ _ _))))
                           | (with_reducible refine NextSt.mk ?_)
                           | ((with_reducible apply NW.addN); (· with_reducible rfl); (· exact natL _); (· omega)))
                  refine RoundFix.mk (k + 1, d, sb1, wb1, sb2, wb2, some (K9, ⟨q3, lp3, ls3⟩, ⟨q4, lp4, ls4⟩)) ?_ ?_ (bH ⟨p1, sb1, wb1⟩ (d) ⟨q3, lp3, ls3⟩ K9 ++ (eH ⟨p2, sb2, wb2⟩ (d) ⟨q4, lp4, ls4⟩ K9 ++ ((bx, .cells ⟨[.int .i64 o, .int .i64 s, .slice a l.length cap]⟩ 65 (0, 0)) :: O))) rfl ((Wk.drop (O1 := kE p2 ⟨q4, lp4, ls4⟩ K9 ++ (kH p1 ⟨q3, lp3, ls3⟩ K9 ++ ((_b, Obj.cells ⟨[.int .i64 1, .int .i64 xn, .slice xz.a xz.l.length xz.cap, sV xs]⟩ 104 (0, 0)) :: (dHp ⟨p1, sb1, wb1⟩ d ++ (eHp ⟨p2, sb2, wb2⟩ d ++ ((bx, .cells ⟨[.int .i64 o, .int .i64 s, .slice a l.length cap]⟩ 65 (0, 0)) :: O)))))) (by simp only [bH, eH, kH, kE, List.append_assoc, List.cons_append]; (try dsimp only); (try simp only [List.cons_append, List.nil_append]); (repeat (first | with_reducible exact List.Sublist.refl _ | with_reducible apply List.Sublist.cons_cons | with_reducible apply sub_app | with_reducible apply List.Sublist.cons | with_reducible apply sub_skip)))).trans ((Wk.perm (perm5 _ _ _ _ _ _)).trans (Wk.drop (List.Sublist.cons _ (List.Sublist.refl _))))) ?_
                  · dsimp only; omega
                  · repeat' (first | exact True.intro | refine And.intro ?_ ?_ | rfl)
                  · exact ⟨by omega, hDB, hkr, hks, hI9.disk (mon.refl _) hDB, hk3, hk4⟩
              by_cases h2 : ki = 2
              · subst h2
                rcases pick1 l xn with hP | ⟨e, hel, hP⟩
                · have e53x : ∀ (b : Nat) O, Rd h O (some ⟨b, 0, none⟩) ([xn].map zV) → GSpec Try.prog 53 [.agg ⟨[.int .i64 o, .int .i64 s, .slice a l.length cap]⟩, .slice (some ⟨b, 0, none⟩) 1 1] h O (New O (RowR ([] : List En))) := fun b O hr => by
                    have := e53 [xn] (some ⟨b, 0, none⟩) 1 O (by show 1 ≤ 30; decide) hr
                    rw [hP] at this; exact this
                  have hDB : d.okB (11000 * (k + 1)) := hdB.mono (by omega)
                  have hIB := hob.disk (mon.refl d) hDB
                  repeat' (conv => whnf
                           first
                           | ((apply CallSt.new (R := RowR ([] : List En)); (· exact e53x _ _ (Rd.own0 (List.Mem.head _))); rintro _ _ ⟨A, rfl, rfl, hA⟩))
                           | (((with_reducible refine DrawSt.walkF (A.hp 70 (([] : List En).flatMap enV)) [0, 1, 2, 3, 4, 5, 6, 7, 8, 9, 10, 11, 13, 14, 15, 16, 12, 17, 18, 19] mixed ?_ ?_ ?_); (· decide +kernel); (· exact List.sublist_append_left _ _)))
                           | (((with_reducible apply Cmp.no); · exact (show ¬ ((0 : Nat) : Int) = 1 by decide)))
                           | (((with_reducible apply LoadSt.rdg (g := acV) (s := 4)); (· rfl); (· exact rdA _); (· exact fun _ => rfl); (· decide); (· (omega))); rw [← hx])
                           | (((with_reducible apply OnBB.yes); · exact beq_self_eq_true _))
                           | (((with_reducible apply OnBB.yes); · rfl))
                           | (((with_reducible apply OnBB.no); · rfl))
                           | (((with_reducible apply CallSt.rd (f := 47)); (· (apply GSpec.locRet (H := dHp ⟨p1, sb1, wb1⟩ d)); (· (repeat (first | with_reducible exact Gv.Loc.left Gv.Loc.hd | with_reducible apply Gv.Loc.tl | with_reducible apply Gv.Loc.skip))); (· exact f47 _ _ _))))
                           | (((with_reducible apply CallSt.rd (f := 48)); (· (apply GSpec.locRet (H := eHp ⟨p2, sb2, wb2⟩ d)); (· (repeat (first | with_reducible exact Gv.Loc.left Gv.Loc.hd | with_reducible apply Gv.Loc.tl | with_reducible apply Gv.Loc.skip))); (· exact f48 _ _ _))))
                           | ((with_reducible apply IdxSl.rdg (g := acV) (s := 4)); (· with_reducible assumption); (· exact fun _ => rfl); (· decide); (· rfl); (· with_reducible rfl); (· (omega)); · (omega))
                           | (with_reducible refine NextSt.mk ?_)
                           | ((with_reducible apply NW.addN); (· with_reducible rfl); (· exact natL _); (· omega))
                           | ((with_reducible apply Cmp.yes); · first | omega | (with_reducible rfl))
                           | ((with_reducible apply Cmp.no); · omega)
                           | ((with_reducible apply LoadSt.box); · (repeat (exact List.Mem.head _)))
                           | ((with_reducible apply LoadSt.boxAgg); · (repeat (first | exact List.Mem.head _ | with_reducible apply List.mem_append_right | with_reducible apply List.mem_cons_of_mem)))
                           | ((with_reducible refine AllocSt.mk ?_); intro _b _hb _hbO)
                           | ((with_reducible apply StoreSt.box); (· (repeat (exact Upd.hd))); (· rfl); (· rfl); (· rfl))
                           | ((with_reducible apply Cmp.no); · (dsimp only; omega)))
                  refine RoundFix.mk (k + 1, d, sb1, wb1, sb2, wb2, some (K, ⟨q1, lp1, ls1⟩, ⟨q2, lp2, ls2⟩)) ?_ ?_ (bH ⟨p1, sb1, wb1⟩ (d) ⟨q1, lp1, ls1⟩ K ++ (eH ⟨p2, sb2, wb2⟩ (d) ⟨q2, lp2, ls2⟩ K ++ ((bx, .cells ⟨[.int .i64 o, .int .i64 s, .slice a l.length cap]⟩ 65 (0, 0)) :: O))) rfl (Wk.drop (by simp only [bH, eH, kH, kE, List.append_assoc, List.cons_append]; (try dsimp only); (try simp only [List.cons_append, List.nil_append]); (repeat (first | with_reducible exact List.Sublist.refl _ | with_reducible apply List.Sublist.cons | with_reducible apply sub_skip)))) ?_
                  · dsimp only; omega
                  · repeat' (first | exact True.intro | refine And.intro ?_ ?_ | rfl)
                  · exact ⟨by omega, hDB, hkr, hks, hIB⟩
                · have e53x : ∀ (b : Nat) O, Rd h O (some ⟨b, 0, none⟩) ([xn].map zV) → GSpec Try.prog 53 [.agg ⟨[.int .i64 o, .int .i64 s, .slice a l.length cap]⟩, .slice (some ⟨b, 0, none⟩) 1 1] h O (New O (RowR [e])) := fun b O hr => by
                    have := e53 [xn] (some ⟨b, 0, none⟩) 1 O (by show 1 ≤ 30; decide) hr
                    rw [hP] at this; exact this
                  have hew := hpw e hel
                  have hI9 := hob.1.add e
                  have e61 := f61 ⟨p1, sb1, wb1⟩ ⟨q1, lp1, ls1⟩ (d, K) (11000 * k) e hew hob.1.ok (by omega) (hob.2.1.b hkr) h
                  have e71 := f71 ⟨p2, sb2, wb2⟩ ⟨q2, lp2, ls2⟩ (d, K) (11000 * k) e hew hob.1.ok (by omega) hob.1.up (hob.2.2.b hks) h
                  rcases hadd : addV (d, K) e with ⟨⟨D, K9⟩, x9⟩
                  rw [hadd] at hI9 e61 e71
                  dsimp only at hI9
                  have hDB : D.okB (11000 * (k + 1)) := hI9.ok.d.mono (by omega)
                  repeat' (conv => whnf
                           first
                           | ((apply CallSt.new (R := RowR [e]); (· exact e53x _ _ (Rd.own0 (List.Mem.head _))); rintro _ _ ⟨A, rfl, rfl, hA⟩))
                           | (((with_reducible refine DrawSt.walkF (A.hp 70 ([e].flatMap enV)) [0, 1, 2, 3, 4, 5, 6, 7, 8, 9, 10, 11, 13, 14, 15, 16, 12, 17, 18, 19] mixed ?_ ?_ ?_); (· decide +kernel); (· exact List.sublist_append_left _ _)))
                           | (((with_reducible refine SubSt.mk ?_ ?_); · exact fun y hy => List.mem_append_left _ hy))
                           | (((with_reducible apply Cmp.yes); · exact (rfl : ((1 : Nat) : Int) = 1)))
                           | (((with_reducible apply CallSt.loc (f := 61) (H := bH ⟨p1, sb1, wb1⟩ d ⟨q1, lp1, ls1⟩ K) (R := BR ⟨p1, sb1, wb1⟩ ⟨q1, lp1, ls1⟩ (D, K9) (.int .i64 x9))); (· (repeat (first | with_reducible exact Gv.Loc.hd | with_reducible apply Gv.Loc.tl | with_reducible apply Gv.Loc.skip))); (· exact e61); rintro _ _ ⟨⟨p3, sb3, wb3⟩, ⟨q3, lp3, ls3⟩, hp3, hq3, hk3, rfl, rfl⟩; (obtain rfl : p1 = p3 := hp3.symm); (obtain rfl : q1 = q3 := hq3.symm)))
                           | (((with_reducible apply CallSt.loc (f := 71) (H := eH ⟨p2, sb2, wb2⟩ d ⟨q2, lp2, ls2⟩ K) (R := BE ⟨p2, sb2, wb2⟩ ⟨q2, lp2, ls2⟩ (D, K9) (.int .i64 x9))); (· (repeat (first | with_reducible exact Gv.Loc.hd | with_reducible apply Gv.Loc.tl | with_reducible apply Gv.Loc.skip))); (· exact e71); rintro _ _ ⟨⟨p4, sb4, wb4⟩, ⟨q4, lp4, ls4⟩, hp4, hq4, hk4, rfl, rfl⟩; (obtain rfl : p2 = p4 := hp4.symm); (obtain rfl : q2 = q4 := hq4.symm)))
                           | (((with_reducible apply LoadSt.rdg (g := acV) (s := 4)); (· rfl); (· exact rdA _); (· exact fun _ => rfl); (· decide); (· (omega))); rw [← hx])
                           | (((with_reducible apply OnBB.yes); · exact beq_self_eq_true _))
                           | (((with_reducible apply OnBB.yes); · rfl))
                           | (((with_reducible apply OnBB.no); · rfl))
                           | (((with_reducible apply Cmp.no); · exact fun h => h rfl))
                           | (((with_reducible apply CallSt.rd (f := 47)); (· (apply GSpec.locRet (H := dHp ⟨p1, sb3, wb3⟩ D)); (· (repeat (first | with_reducible exact Gv.Loc.left Gv.Loc.hd | with_reducible apply Gv.Loc.tl | with_reducible apply Gv.Loc.skip))); (· exact f47 _ _ _))))
                           | (((with_reducible apply CallSt.rd (f := 48)); (· (apply GSpec.locRet (H := eHp ⟨p2, sb4, wb4⟩ D)); (· (repeat (first | with_reducible exact Gv.Loc.left Gv.Loc.hd | with_reducible apply Gv.Loc.tl | with_reducible apply Gv.Loc.skip))); (· exact f48 _ _ _))))
                           | ((with_reducible apply LoadSt.rdg (g := enV) (s := 3)); (· rfl); (· (repeat ((with_reducible apply Buf.rd; with_reducible assumption)))); (· exact fun _ => rfl); (· decide); · ((simp only [List.length_map, List.length_append, List.length_cons, List.length_nil, List.length_take, List.length_drop, List.length_replicate, List.length_set] at *; omega)))
                           | ((with_reducible apply IdxSl.bufm (s := 3)); (· with_reducible assumption); (· rfl); (· rfl); (· exact natL _); · ((simp only [List.length_map, List.length_append, List.length_cons, List.length_nil, List.length_take, List.length_drop, List.length_replicate, List.length_set] at *; omega)))
                           | ((with_reducible apply IdxSl.rdg (g := acV) (s := 4)); (· with_reducible assumption); (· exact fun _ => rfl); (· decide); (· rfl); (· with_reducible rfl); (· (omega)); · (omega))
                           | (with_reducible refine NextSt.mk ?_)
                           | ((with_reducible apply NW.addN); (· with_reducible rfl); (· exact natL _); (· omega))
                           | ((with_reducible apply Cmp.yes); · first | omega | (with_reducible rfl))
                           | ((with_reducible apply Cmp.no); · omega)
                           | ((with_reducible apply LoadSt.box); · (repeat (exact List.Mem.head _)))
                           | ((with_reducible apply LoadSt.boxAgg); · (repeat (first | exact List.Mem.head _ | with_reducible apply List.mem_append_right | with_reducible apply List.mem_cons_of_mem)))
                           | ((with_reducible refine AllocSt.mk ?_); intro _b _hb _hbO)
                           | ((with_reducible apply StoreSt.box); (· (repeat (exact Upd.hd))); (· rfl); (· rfl); (· rfl))
                           | ((with_reducible apply Cmp.no); · (dsimp only; omega)))
                  refine RoundFix.mk (k + 1, D, sb3, wb3, sb4, wb4, some (K9, ⟨q1, lp3, ls3⟩, ⟨q2, lp4, ls4⟩)) ?_ ?_ (bH ⟨p1, sb3, wb3⟩ (D) ⟨q1, lp3, ls3⟩ K9 ++ (eH ⟨p2, sb4, wb4⟩ (D) ⟨q2, lp4, ls4⟩ K9 ++ ((bx, .cells ⟨[.int .i64 o, .int .i64 s, .slice a l.length cap]⟩ 65 (0, 0)) :: O))) rfl (Wk.drop (by simp only [bH, eH, kH, kE, List.append_assoc, List.cons_append]; (try dsimp only); (try simp only [List.cons_append, List.nil_append]); (repeat (first | with_reducible exact List.Sublist.refl _ | with_reducible apply List.Sublist.cons | with_reducible apply sub_skip)))) ?_
                  · dsimp only; omega
                  · repeat' (first | exact True.intro | refine And.intro ?_ ?_ | rfl)
                  · exact ⟨by omega, hDB, hk3.d, hk4.d, hI9.disk (mon.refl _) hDB, hk3.k, hk4.k⟩
              by_cases h3 : ki = 3
              · subst h3
                have e53x := fun O => e53 xz.l xz.a xz.cap O (by omega) (hxr.more (fun _ _ e => e) fun _ _ e => by cases e)
                have hpg : ∀ e ∈ pickV l xz.l, enW e := fun e he => hpw e (pickV_subs he)
                have hgl := pickV_len (items := l) xz.l
                generalize pickV l xz.l = g at *
                have hI9 := hob.1.take g
                rcases htk : takeV (d, K) g with ⟨⟨D, K9⟩, m9, x9⟩
                rw [htk] at hI9
                dsimp only at hI9
                have hDB : D.okB (11000 * (k + 1)) := hI9.ok.d.mono (by omega)
                repeat' (conv => whnf
                         first
                         | (((with_reducible apply LoadSt.rdg (g := acV) (s := 4)); (· rfl); (· exact rdA _); (· exact fun _ => rfl); (· decide); (· (omega))); rw [← hx])
                         | (((with_reducible apply OnBB.yes); · rfl))
                         | (((with_reducible apply OnBB.no); · rfl))
                         | ((with_reducible apply IdxSl.rdg (g := acV) (s := 4)); (· with_reducible assumption); (· exact fun _ => rfl); (· decide); (· rfl); (· with_reducible rfl); (· (omega)); · (omega))
                         | (with_reducible refine NextSt.mk ?_)
                         | ((with_reducible apply Cmp.yes); · first | omega | (with_reducible rfl))
                         | ((with_reducible apply Cmp.no); · omega)
                         | ((with_reducible apply LoadSt.box); · (repeat (exact List.Mem.head _)))
                         | ((with_reducible apply LoadSt.boxAgg); · (repeat (first | exact List.Mem.head _ | with_reducible apply List.mem_append_right | with_reducible apply List.mem_cons_of_mem)))
                         | ((with_reducible refine AllocSt.mk ?_); intro _b _hb _hbO)
                         | ((with_reducible apply StoreSt.box); (· (repeat (exact Upd.hd))); (· rfl); (· rfl); (· rfl))
                         | ((with_reducible apply Cmp.no); · (dsimp only; omega)))
                conv => whnf
                apply CallSt.new (e53x _)
                rintro _ _ ⟨A, rfl, rfl, hA⟩
                repeat' (conv => whnf
                         first
                         | fail)
                conv => whnf
                with_reducible apply CallSt.locG (f := 55) (H := bH ⟨p1, sb1, wb1⟩ d ⟨q1, lp1, ls1⟩ K) (G := A.hp 70 (g.flatMap enV)) (R := BR ⟨p1, sb1, wb1⟩ ⟨q1, lp1, ls1⟩ (D, K9) (.tuple ⟨[iN m9, .int .i64 x9]⟩))
                · (repeat (first | with_reducible exact Gv.Loc.hd | with_reducible apply Gv.Loc.tl | with_reducible apply Gv.Loc.skip))
                · (repeat (with_reducible exact Gv.Loc.hd))
                · exact f55L ⟨p1, sb1, wb1⟩ ⟨q1, lp1, ls1⟩ (d, K) (D, K9) (11000 * k) m9 x9 g A.a A.cap _ hpg (by omega) hob.1.ok (by omega) (hob.2.1.b hkr) htk _ (Buf.rd hA)
                rintro _ _ ⟨⟨p3, sb3, wb3⟩, ⟨q3, lp3, ls3⟩, hp3, hq3, hk3, rfl, rfl⟩
                obtain rfl : p1 = p3 := hp3.symm
                obtain rfl : q1 = q3 := hq3.symm
                repeat' (conv => whnf
                         first
                         | (with_reducible refine NextSt.mk ?_)
                         | ((with_reducible apply LoadSt.box); · (repeat (first | exact List.Mem.head _ | with_reducible apply List.mem_append_right)))
                         | ((with_reducible apply LoadSt.boxAgg); · (repeat (first | exact List.Mem.head _ | with_reducible apply List.mem_append_right | with_reducible apply List.mem_cons_of_mem))))
                conv => whnf
                apply CallSt.new (e53x _)
                rintro _ _ ⟨A2, rfl, rfl, hA2⟩
                have e68 := f68x ⟨p2, sb2, wb2⟩ ⟨q2, lp2, ls2⟩ (d, K) (11000 * k) g A2.a A2.cap _ hpg (by omega) hob.1 (by omega) (hob.2.2.b hks) h (Buf.rd (e := 70) hA2)
                rw [htk] at e68
                dsimp only at e68
                repeat' (conv => whnf
                         first
                         | fail)
                conv => whnf
                with_reducible apply CallSt.locG (f := 68) (H := eH ⟨p2, sb2, wb2⟩ d ⟨q2, lp2, ls2⟩ K) (G := A2.hp 70 (g.flatMap enV)) (R := BE ⟨p2, sb2, wb2⟩ ⟨q2, lp2, ls2⟩ (D, K9) (.tuple ⟨[iN m9, .int .i64 x9]⟩))
                · (repeat (first | with_reducible exact Gv.Loc.hd | with_reducible apply Gv.Loc.tl | with_reducible apply Gv.Loc.skip))
                · (repeat (with_reducible exact Gv.Loc.hd))
                · exact e68.mono fun v h' O' ⟨r', b', h1, h2, h3, h4, h5⟩ => ⟨eH r' D b' K9, h4, r', b', h1, h2, h3, rfl, h5⟩
                rintro _ _ ⟨⟨p4, sb4, wb4⟩, ⟨q4, lp4, ls4⟩, hp4, hq4, hk4, rfl, rfl⟩
                obtain rfl : p2 = p4 := hp4.symm
                obtain rfl : q2 = q4 := hq4.symm
                repeat' (conv => whnf
                         first
                         | (((with_reducible apply OnBB.yes); · exact beq_self_eq_true _))
                         | (((with_reducible apply OnBB.no); · rfl))
                         | (((with_reducible apply Cmp.no); · exact fun h => h rfl))
                         | (((with_reducible apply CallSt.rd (f := 47)); (· (apply GSpec.locRet (H := dHp ⟨p1, sb3, wb3⟩ D)); (· (repeat (first | with_reducible exact Gv.Loc.left Gv.Loc.hd | with_reducible apply Gv.Loc.tl | with_reducible apply Gv.Loc.skip))); (· exact f47 _ _ _))))
                         | (((with_reducible apply CallSt.rd (f := 48)); (· (apply GSpec.locRet (H := eHp ⟨p2, sb4, wb4⟩ D)); (· (repeat (first | with_reducible exact Gv.Loc.left Gv.Loc.hd | with_reducible apply Gv.Loc.tl | with_reducible apply Gv.Loc.skip))); (· exact f48 _ _ _))))
                         | (with_reducible refine NextSt.mk ?_)
                         | ((with_reducible apply NW.addN); (· with_reducible rfl); (· exact natL _); (· omega)))
                refine RoundFix.mk (k + 1, D, sb3, wb3, sb4, wb4, some (K9, ⟨q1, lp3, ls3⟩, ⟨q2, lp4, ls4⟩)) ?_ ?_ (bH ⟨p1, sb3, wb3⟩ (D) ⟨q1, lp3, ls3⟩ K9 ++ (eH ⟨p2, sb4, wb4⟩ (D) ⟨q2, lp4, ls4⟩ K9 ++ ((bx, .cells ⟨[.int .i64 o, .int .i64 s, .slice a l.length cap]⟩ 65 (0, 0)) :: O))) rfl (Wk.drop (by simp only [bH, eH, kH, kE, List.append_assoc, List.cons_append]; (try dsimp only); (try simp only [List.cons_append, List.nil_append]); (repeat (first | with_reducible exact List.Sublist.refl _ | with_reducible apply List.Sublist.cons | with_reducible apply sub_skip)))) ?_
                · dsimp only; omega
                · repeat' (first | exact True.intro | refine And.intro ?_ ?_ | rfl)
                · exact ⟨by omega, hDB, hk3.d, hk4.d, hI9.disk (mon.refl _) hDB, hk3.k, hk4.k⟩
              by_cases h4 : ki = 4
              · subst h4
                have hok : (d.arm xn).okB (11000 * k + 1) := (show (d.arm xn).okB (11000 * k) from ⟨hdB.safe, hdB.waits, hdB.size, by show xn.toNat ≤ _; have := hxn.2; omega, hdB.few⟩).mono (by omega)
                have hDB : (d.arm xn).okB (11000 * (k + 1)) := hok.mono (by omega)
                have hIB := hob.disk (mon.arm d xn) hDB
                repeat' (conv => whnf
                         first
                         | (((with_reducible apply LoadSt.rdg (g := acV) (s := 4)); (· rfl); (· exact rdA _); (· exact fun _ => rfl); (· decide); (· (omega))); rw [← hx])
                         | (((with_reducible apply OnBB.yes); · rfl))
                         | (((with_reducible apply OnBB.no); · rfl))
                         | ((with_reducible apply IdxSl.rdg (g := acV) (s := 4)); (· with_reducible assumption); (· exact fun _ => rfl); (· decide); (· rfl); (· with_reducible rfl); (· (omega)); · (omega))
                         | (with_reducible refine NextSt.mk ?_)
                         | ((with_reducible apply Cmp.yes); · first | omega | (with_reducible rfl))
                         | ((with_reducible apply Cmp.no); · omega)
                         | ((with_reducible apply LoadSt.box); · (repeat (exact List.Mem.head _)))
                         | ((with_reducible refine AllocSt.mk ?_); intro _b _hb _hbO)
                         | ((with_reducible apply StoreSt.box); (· (repeat (exact Upd.hd))); (· rfl); (· rfl); (· rfl))
                         | ((with_reducible apply Cmp.no); · (dsimp only; omega)))
                conv => whnf
                with_reducible apply CallSt.loc (f := 43) (H := dHp ⟨p1, sb1, wb1⟩ d) (R := DR ⟨p1, sb1, wb1⟩ (d.arm xn) noV)
                · (repeat (first | with_reducible exact Gv.Loc.left Gv.Loc.hd | with_reducible apply Gv.Loc.tl))
                · exact f43 _ d xn hkr _
                rintro _ _ ⟨⟨p3, sb3, wb3⟩, hp3, rfl, hk3, rfl⟩
                obtain rfl : p1 = p3 := hp3.symm
                repeat' (conv => whnf
                         first
                         | (with_reducible refine NextSt.mk ?_)
                         | ((with_reducible apply LoadSt.box); · (repeat (exact List.Mem.head _))))
                conv => whnf
                with_reducible apply CallSt.loc (f := 44) (H := eHp ⟨p2, sb2, wb2⟩ d) (R := ER ⟨p2, sb2, wb2⟩ (d.arm xn) noV)
                · (repeat (first | with_reducible exact Gv.Loc.left Gv.Loc.hd | with_reducible apply Gv.Loc.tl | with_reducible apply Gv.Loc.skip))
                · exact f44 _ d xn hxn hks _
                rintro _ _ ⟨⟨p4, sb4, wb4⟩, hp4, rfl, hk4, rfl⟩
                obtain rfl : p2 = p4 := hp4.symm
                repeat' (conv => whnf
                         first
                         | (((with_reducible apply OnBB.yes); · exact beq_self_eq_true _))
                         | (((with_reducible apply OnBB.no); · rfl))
                         | (((with_reducible apply CallSt.rd (f := 47)); (· (apply GSpec.locRet (H := dHp ⟨p1, sb3, wb3⟩ (d.arm xn))); (· (repeat (first | with_reducible exact Gv.Loc.left Gv.Loc.hd | with_reducible apply Gv.Loc.tl))); (· exact f47 _ _ _))))
                         | (((with_reducible apply CallSt.rd (f := 48)); (· (apply GSpec.locRet (H := eHp ⟨p2, sb4, wb4⟩ (d.arm xn))); (· (repeat (first | with_reducible exact Gv.Loc.left Gv.Loc.hd | with_reducible apply Gv.Loc.tl | with_reducible apply Gv.Loc.skip))); (· exact f48 _ _ _))))
                         | (with_reducible refine NextSt.mk ?_)
                         | ((with_reducible apply NW.addN); (· with_reducible rfl); (· exact natL _); (· omega)))
                refine RoundFix.mk (k + 1, d.arm xn, sb3, wb3, sb4, wb4, some (K, ⟨q1, lp1, ls1⟩, ⟨q2, lp2, ls2⟩)) ?_ ?_ (bH ⟨p1, sb3, wb3⟩ (d.arm xn) ⟨q1, lp1, ls1⟩ K ++ (eH ⟨p2, sb4, wb4⟩ (d.arm xn) ⟨q2, lp2, ls2⟩ K ++ ((bx, .cells ⟨[.int .i64 o, .int .i64 s, .slice a l.length cap]⟩ 65 (0, 0)) :: O))) rfl (Wk.drop (by simp only [bH, eH, kH, kE, List.append_assoc, List.cons_append]; (try dsimp only); (try simp only [List.cons_append, List.nil_append]); (repeat (first | with_reducible exact List.Sublist.refl _ | with_reducible apply List.Sublist.cons)))) ?_
                · dsimp only; omega
                · repeat' (first | exact True.intro | refine And.intro ?_ ?_ | rfl)
                · exact ⟨by omega, hDB, hk3, hk4, hIB⟩
              by_cases h5 : ki = 5
              · subst h5
                have hok : (d.restart xs).okB (11000 * k + 1) := okB.restart hdB xs
                have hDB : (d.restart xs).okB (11000 * (k + 1)) := hok.mono (by omega)
                have hIB := hob.disk (mon.restart d xs) hDB
                repeat' (conv => whnf
                         first
                         | (((with_reducible apply LoadSt.rdg (g := acV) (s := 4)); (· rfl); (· exact rdA _); (· exact fun _ => rfl); (· decide); (· (omega))); rw [← hx])
                         | (((with_reducible apply OnBB.yes); · rfl))
                         | (((with_reducible apply OnBB.no); · rfl))
                         | ((with_reducible apply IdxSl.rdg (g := acV) (s := 4)); (· with_reducible assumption); (· exact fun _ => rfl); (· decide); (· rfl); (· with_reducible rfl); (· (omega)); · (omega))
                         | (with_reducible refine NextSt.mk ?_)
                         | ((with_reducible apply Cmp.yes); · first | omega | (with_reducible rfl))
                         | ((with_reducible apply Cmp.no); · omega)
                         | ((with_reducible apply LoadSt.box); · (repeat (exact List.Mem.head _)))
                         | ((with_reducible refine AllocSt.mk ?_); intro _b _hb _hbO)
                         | ((with_reducible apply StoreSt.box); (· (repeat (exact Upd.hd))); (· rfl); (· rfl); (· rfl))
                         | ((with_reducible apply Cmp.no); · (dsimp only; omega)))
                conv => whnf
                with_reducible apply CallSt.loc (f := 45) (H := dHp ⟨p1, sb1, wb1⟩ d) (R := DR ⟨p1, sb1, wb1⟩ (d.restart xs) noV)
                · (repeat (first | with_reducible exact Gv.Loc.left Gv.Loc.hd | with_reducible apply Gv.Loc.tl))
                · exact f45 _ d xs (hdB.ok (by omega)) hxs hkr _
                rintro _ _ ⟨⟨p3, sb3, wb3⟩, hp3, rfl, hk3, rfl⟩
                obtain rfl : p1 = p3 := hp3.symm
                repeat' (conv => whnf
                         first
                         | (with_reducible refine NextSt.mk ?_)
                         | ((with_reducible apply LoadSt.box); · (repeat (exact List.Mem.head _))))
                conv => whnf
                with_reducible apply CallSt.loc (f := 46) (H := eHp ⟨p2, sb2, wb2⟩ d) (R := ER ⟨p2, sb2, wb2⟩ (d.restart xs) noV)
                · (repeat (first | with_reducible exact Gv.Loc.left Gv.Loc.hd | with_reducible apply Gv.Loc.tl | with_reducible apply Gv.Loc.skip))
                · exact f46 _ d xs (hdB.ok (by omega)) hxs hks _
                rintro _ _ ⟨⟨p4, sb4, wb4⟩, hp4, rfl, hk4, rfl⟩
                obtain rfl : p2 = p4 := hp4.symm
                repeat' (conv => whnf
                         first
                         | (((with_reducible apply OnBB.yes); · exact beq_self_eq_true _))
                         | (((with_reducible apply OnBB.no); · rfl))
                         | (((with_reducible apply CallSt.rd (f := 47)); (· (apply GSpec.locRet (H := dHp ⟨p1, sb3, wb3⟩ (d.restart xs))); (· (repeat (first | with_reducible exact Gv.Loc.left Gv.Loc.hd | with_reducible apply Gv.Loc.tl))); (· exact f47 _ _ _))))
                         | (((with_reducible apply CallSt.rd (f := 48)); (· (apply GSpec.locRet (H := eHp ⟨p2, sb4, wb4⟩ (d.restart xs))); (· (repeat (first | with_reducible exact Gv.Loc.left Gv.Loc.hd | with_reducible apply Gv.Loc.tl | with_reducible apply Gv.Loc.skip))); (· exact f48 _ _ _))))
                         | (with_reducible refine NextSt.mk ?_)
                         | ((with_reducible apply NW.addN); (· with_reducible rfl); (· exact natL _); (· omega)))
                refine RoundFix.mk (k + 1, d.restart xs, sb3, wb3, sb4, wb4, some (K, ⟨q1, lp1, ls1⟩, ⟨q2, lp2, ls2⟩)) ?_ ?_ (bH ⟨p1, sb3, wb3⟩ (d.restart xs) ⟨q1, lp1, ls1⟩ K ++ (eH ⟨p2, sb4, wb4⟩ (d.restart xs) ⟨q2, lp2, ls2⟩ K ++ ((bx, .cells ⟨[.int .i64 o, .int .i64 s, .slice a l.length cap]⟩ 65 (0, 0)) :: O))) rfl (Wk.drop (by simp only [bH, eH, kH, kE, List.append_assoc, List.cons_append]; (try dsimp only); (try simp only [List.cons_append, List.nil_append]); (repeat (first | with_reducible exact List.Sublist.refl _ | with_reducible apply List.Sublist.cons)))) ?_
                · dsimp only; omega
                · repeat' (first | exact True.intro | refine And.intro ?_ ?_ | rfl)
                · exact ⟨by omega, hDB, hk3, hk4, hIB⟩
              by_cases h6 : ki = 6
              · subst h6
                have hDB : d.okB (11000 * (k + 1)) := hdB.mono (by omega)
                have hIB := hob.disk (mon.refl d) hDB
                repeat' (conv => whnf
                         first
                         | (((with_reducible apply LoadSt.rdg (g := acV) (s := 4)); (· rfl); (· exact rdA _); (· exact fun _ => rfl); (· decide); (· (omega))); rw [← hx])
                         | (((with_reducible apply OnBB.yes); · rfl))
                         | (((with_reducible apply OnBB.no); · rfl))
                         | ((with_reducible apply IdxSl.rdg (g := acV) (s := 4)); (· with_reducible assumption); (· exact fun _ => rfl); (· decide); (· rfl); (· with_reducible rfl); (· (omega)); · (omega))
                         | (with_reducible refine NextSt.mk ?_)
                         | ((with_reducible apply Cmp.yes); · first | omega | (with_reducible rfl))
                         | ((with_reducible apply Cmp.no); · omega)
                         | ((with_reducible apply LoadSt.box); · (repeat (exact List.Mem.head _)))
                         | ((with_reducible refine AllocSt.mk ?_); intro _b _hb _hbO)
                         | ((with_reducible apply StoreSt.box); (· (repeat (exact Upd.hd))); (· rfl); (· rfl); (· rfl))
                         | ((with_reducible apply Cmp.no); · (dsimp only; omega)))
                conv => whnf
                apply CallSt.rd (f := 67) (X := .bool true)
                · apply f67 ⟨p1, sb1, wb1⟩ ⟨p2, sb2, wb2⟩ ⟨q1, lp1, ls1⟩ ⟨q2, lp2, ls2⟩ (d, K) (d, K)
                  · repeat (first | with_reducible exact Gv.Loc.hd | with_reducible apply Gv.Loc.tl)
                  · repeat (first | with_reducible exact Gv.Loc.hd | with_reducible apply Gv.Loc.tl | with_reducible apply Gv.Loc.skip)
                  · exact hob.1.ok.wf
                  · rfl
                  · exact hob.1.one
                  · exact hob.2.1.b hkr
                  · exact hob.2.2.b hks
                repeat' (conv => whnf
                         first
                         | (((with_reducible apply OnBB.yes); · rfl))
                         | (((with_reducible apply OnBB.no); · rfl)))
                conv => whnf
                apply CallSt.rd (f := 51) (X := .bool true)
                · apply f51 ⟨p1, sb1, wb1⟩ ⟨p2, sb2, wb2⟩ d
                  · (repeat (first | with_reducible exact Gv.Loc.left Gv.Loc.hd | with_reducible apply Gv.Loc.tl))
                  · (repeat (first | with_reducible exact Gv.Loc.left Gv.Loc.hd | with_reducible apply Gv.Loc.tl | with_reducible apply Gv.Loc.skip))
                  · exact hdB.ok (by omega)
                  · exact hkr
                  · exact hks
                repeat' (conv => whnf
                         first
                         | (((with_reducible apply OnBB.yes); · exact beq_self_eq_true _))
                         | (((with_reducible apply OnBB.yes); · rfl))
                         | (((with_reducible apply OnBB.no); · rfl))
                         | (((with_reducible apply CallSt.rd (f := 47)); (· (apply GSpec.locRet (H := dHp ⟨p1, sb1, wb1⟩ d)); (· (repeat (first | with_reducible exact Gv.Loc.left Gv.Loc.hd | with_reducible apply Gv.Loc.tl))); (· exact f47 _ _ _))))
                         | (((with_reducible apply CallSt.rd (f := 48)); (· (apply GSpec.locRet (H := eHp ⟨p2, sb2, wb2⟩ d)); (· (repeat (first | with_reducible exact Gv.Loc.left Gv.Loc.hd | with_reducible apply Gv.Loc.tl | with_reducible apply Gv.Loc.skip))); (· exact f48 _ _ _))))
                         | (with_reducible refine NextSt.mk ?_)
                         | ((with_reducible apply NW.addN); (· with_reducible rfl); (· exact natL _); (· omega)))
                refine RoundFix.mk (k + 1, d, sb1, wb1, sb2, wb2, some (K, ⟨q1, lp1, ls1⟩, ⟨q2, lp2, ls2⟩)) ?_ ?_ (bH ⟨p1, sb1, wb1⟩ (d) ⟨q1, lp1, ls1⟩ K ++ (eH ⟨p2, sb2, wb2⟩ (d) ⟨q2, lp2, ls2⟩ K ++ ((bx, .cells ⟨[.int .i64 o, .int .i64 s, .slice a l.length cap]⟩ 65 (0, 0)) :: O))) rfl (Wk.drop (by simp only [bH, eH, kH, kE, List.append_assoc, List.cons_append]; (try dsimp only); (try simp only [List.cons_append, List.nil_append]); (repeat (first | with_reducible exact List.Sublist.refl _ | with_reducible apply List.Sublist.cons)))) ?_
                · dsimp only; omega
                · repeat' (first | exact True.intro | refine And.intro ?_ ?_ | rfl)
                · exact ⟨by omega, hDB, hkr, hks, hIB⟩
              have hDB : d.okB (11000 * (k + 1)) := hdB.mono (by omega)
              have hIB := hob.disk (mon.refl d) hDB
              repeat' (conv => whnf
                       first
                       | (((with_reducible apply LoadSt.rdg (g := acV) (s := 4)); (· rfl); (· exact rdA _); (· exact fun _ => rfl); (· decide); (· (omega))); rw [← hx])
                       | (((with_reducible apply OnBB.yes); · exact beq_self_eq_true _))
                       | (((with_reducible apply OnBB.yes); · rfl))
                       | (((with_reducible apply OnBB.no); · rfl))
                       | (((with_reducible apply CallSt.rd (f := 47)); (· (apply GSpec.locRet (H := dHp ⟨p1, sb1, wb1⟩ d)); (· (repeat (first | with_reducible exact Gv.Loc.left Gv.Loc.hd | with_reducible apply Gv.Loc.tl))); (· exact f47 _ _ _))))
                       | (((with_reducible apply CallSt.rd (f := 48)); (· (apply GSpec.locRet (H := eHp ⟨p2, sb2, wb2⟩ d)); (· (repeat (first | with_reducible exact Gv.Loc.left Gv.Loc.hd | with_reducible apply Gv.Loc.tl | with_reducible apply Gv.Loc.skip))); (· exact f48 _ _ _))))
                       | ((with_reducible apply IdxSl.rdg (g := acV) (s := 4)); (· with_reducible assumption); (· exact fun _ => rfl); (· decide); (· rfl); (· with_reducible rfl); (· (omega)); · (omega))
                       | (with_reducible refine NextSt.mk ?_)
                       | ((with_reducible apply NW.addN); (· with_reducible rfl); (· exact natL _); (· omega))
                       | ((with_reducible apply Cmp.yes); · omega)
                       | ((with_reducible apply Cmp.no); · omega)
                       | ((with_reducible apply LoadSt.box); · (repeat (exact List.Mem.head _)))
                       | ((with_reducible refine AllocSt.mk ?_); intro _b _hb _hbO)
                       | ((with_reducible apply StoreSt.box); (· (repeat (exact Upd.hd))); (· rfl); (· rfl); (· rfl))
                       | ((with_reducible apply Cmp.no); · (dsimp only; omega)))
              refine RoundFix.mk (k + 1, d, sb1, wb1, sb2, wb2, some (K, ⟨q1, lp1, ls1⟩, ⟨q2, lp2, ls2⟩)) ?_ ?_ (bH ⟨p1, sb1, wb1⟩ (d) ⟨q1, lp1, ls1⟩ K ++ (eH ⟨p2, sb2, wb2⟩ (d) ⟨q2, lp2, ls2⟩ K ++ ((bx, .cells ⟨[.int .i64 o, .int .i64 s, .slice a l.length cap]⟩ 65 (0, 0)) :: O))) rfl (Wk.drop (by simp only [bH, eH, kH, kE, List.append_assoc, List.cons_append]; (try dsimp only); (try simp only [List.cons_append, List.nil_append]); (repeat (first | with_reducible exact List.Sublist.refl _ | with_reducible apply List.Sublist.cons)))) ?_
              · dsimp only; omega
              · repeat' (first | exact True.intro | refine And.intro ?_ ?_ | rfl)
              · exact ⟨by omega, hDB, hkr, hks, hIB⟩
          · cases ob with
            | none =>
              show overK 0 _ _ [(9, Value.pointer none), (10, Value.pointer none), (11, iN k)] _ fun s1 => codeK _ _ s1 h (dHp ⟨p1, sb1, wb1⟩ (d) ++ (eHp ⟨p2, sb2, wb2⟩ (d) ++ ((bx, .cells ⟨[.int .i64 o, .int .i64 s, .slice a l.length cap]⟩ 65 (0, 0)) :: O))) _
              repeat' (conv => whnf
                       first
                       | (((with_reducible apply LoadSt.rdg (g := acV) (s := 4)); (· rfl); (· exact rdA _); (· exact fun _ => rfl); (· decide); (· (omega))); rw [← hx])
                       | (((with_reducible apply OnBB.yes); · rfl))
                       | ((with_reducible apply IdxSl.rdg (g := acV) (s := 4)); (· with_reducible assumption); (· exact fun _ => rfl); (· decide); (· rfl); (· with_reducible rfl); (· (omega)); · (omega))
                       | (with_reducible refine NextSt.mk ?_)
                       | ((with_reducible apply Cmp.yes); · omega)
                       | ((with_reducible apply LoadSt.box); · (repeat (exact List.Mem.head _)))
                       | ((with_reducible refine AllocSt.mk ?_); intro _b _hb _hbO)
                       | ((with_reducible apply StoreSt.box); (· (repeat (exact Upd.hd))); (· rfl); (· rfl); (· rfl))
                       | ((with_reducible apply Cmp.yes); · (dsimp only; omega)))
              conv => whnf
              refine FinSt.ret ?_ rfl
              repeat (first | exact List.Sublist.refl _ | apply List.Sublist.cons | apply sub_skip)
            | some x =>
              obtain ⟨K, ⟨q1, lp1, ls1⟩, ⟨q2, lp2, ls2⟩⟩ := x
              show overK 0 _ _ [(9, pP q1), (10, pP q2), (11, iN k)] _ fun s1 => codeK _ _ s1 h (bH ⟨p1, sb1, wb1⟩ (d) ⟨q1, lp1, ls1⟩ K ++ (eH ⟨p2, sb2, wb2⟩ (d) ⟨q2, lp2, ls2⟩ K ++ ((bx, .cells ⟨[.int .i64 o, .int .i64 s, .slice a l.length cap]⟩ 65 (0, 0)) :: O))) _
              repeat' (conv => whnf
                       first
                       | (((with_reducible apply LoadSt.rdg (g := acV) (s := 4)); (· rfl); (· exact rdA _); (· exact fun _ => rfl); (· decide); (· (omega))); rw [← hx])
                       | (((with_reducible apply OnBB.yes); · rfl))
                       | ((with_reducible apply IdxSl.rdg (g := acV) (s := 4)); (· with_reducible assumption); (· exact fun _ => rfl); (· decide); (· rfl); (· with_reducible rfl); (· (omega)); · (omega))
                       | (with_reducible refine NextSt.mk ?_)
                       | ((with_reducible apply Cmp.yes); · omega)
                       | ((with_reducible apply LoadSt.box); · (repeat (exact List.Mem.head _)))
                       | ((with_reducible refine AllocSt.mk ?_); intro _b _hb _hbO)
                       | ((with_reducible apply StoreSt.box); (· (repeat (exact Upd.hd))); (· rfl); (· rfl); (· rfl))
                       | ((with_reducible apply Cmp.yes); · (dsimp only; omega)))
              conv => whnf
              refine FinSt.ret ?_ rfl
              repeat (first | exact List.Sublist.refl _ | apply List.Sublist.cons | apply sub_skip)
        · have : k = acts.length := by omega
          subst this
          cases ob with
          | none =>
            show overK 0 _ _ [(9, Value.pointer none), (10, Value.pointer none), (11, iN acts.length)] _ fun s1 => codeK _ _ s1 h (dHp ⟨p1, sb1, wb1⟩ (d) ++ (eHp ⟨p2, sb2, wb2⟩ (d) ++ ((bx, .cells ⟨[.int .i64 o, .int .i64 s, .slice a l.length cap]⟩ 65 (0, 0)) :: O))) _
            have hok : (d.restart []).okB (11000 * acts.length + 1) := okB.restart hdB []
            repeat' (conv => whnf
                     first
                     | (((with_reducible apply OnBB.no); · rfl))
                     | (with_reducible refine NextSt.mk ?_)
                     | ((with_reducible apply Cmp.no); · omega))
            conv => whnf
            with_reducible apply CallSt.loc (f := 45) (H := dHp ⟨p1, sb1, wb1⟩ d) (R := DR ⟨p1, sb1, wb1⟩ (d.restart []) noV)
            · (repeat (with_reducible exact Gv.Loc.hd))
            · exact f45 _ d [] (hdB.ok (by omega)) (by decide) hkr _
            rintro _ _ ⟨⟨p3, sb3, wb3⟩, hp3, rfl, hk3, rfl⟩
            obtain rfl : p1 = p3 := hp3.symm
            repeat' (conv => whnf
                     first
                     | (with_reducible refine NextSt.mk ?_))
            conv => whnf
            with_reducible apply CallSt.loc (f := 46) (H := eHp ⟨p2, sb2, wb2⟩ d) (R := ER ⟨p2, sb2, wb2⟩ (d.restart []) noV)
            · (repeat (first | with_reducible exact Gv.Loc.hd | with_reducible apply Gv.Loc.skip))
            · exact f46 _ d [] (hdB.ok (by omega)) (by decide) hks _
            rintro _ _ ⟨⟨p4, sb4, wb4⟩, hp4, rfl, hk4, rfl⟩
            obtain rfl : p2 = p4 := hp4.symm
            repeat' (conv => whnf
                     first
                     | (with_reducible refine NextSt.mk ?_))
            conv => whnf
            apply CallSt.rd (f := 51) (X := .bool true)
            · apply f51 ⟨p1, sb3, wb3⟩ ⟨p2, sb4, wb4⟩ (d.restart [])
              · (repeat (with_reducible exact Gv.Loc.hd))
              · (repeat (first | with_reducible exact Gv.Loc.hd | with_reducible apply Gv.Loc.skip))
              · exact hok.ok (by omega)
              · exact hk3
              · exact hk4
            repeat' (conv => whnf
                     first
                     | (with_reducible refine NextSt.mk ?_))
            conv => whnf
            refine FinSt.ret ?_ rfl
            repeat (first | exact List.Sublist.refl _ | apply List.Sublist.cons | apply sub_skip)
          | some x =>
            obtain ⟨K, ⟨q1, lp1, ls1⟩, ⟨q2, lp2, ls2⟩⟩ := x
            have hob : obI (11000 * acts.length) d (some (K, ⟨q1, lp1, ls1⟩, ⟨q2, lp2, ls2⟩)) := hob
            show overK 0 _ _ [(9, pP q1), (10, pP q2), (11, iN acts.length)] _ fun s1 => codeK _ _ s1 h (bH ⟨p1, sb1, wb1⟩ (d) ⟨q1, lp1, ls1⟩ K ++ (eH ⟨p2, sb2, wb2⟩ (d) ⟨q2, lp2, ls2⟩ K ++ ((bx, .cells ⟨[.int .i64 o, .int .i64 s, .slice a l.length cap]⟩ 65 (0, 0)) :: O))) _
            have hok : (d.restart []).okB (11000 * acts.length + 1) := okB.restart hdB []
            repeat' (conv => whnf
                     first
                     | (((with_reducible apply OnBB.yes); · rfl))
                     | (((with_reducible apply OnBB.no); · rfl))
                     | (with_reducible refine NextSt.mk ?_)
                     | ((with_reducible apply Cmp.no); · omega))
            conv => whnf
            apply CallSt.rd (f := 67) (X := .bool true)
            · apply f67 ⟨p1, sb1, wb1⟩ ⟨p2, sb2, wb2⟩ ⟨q1, lp1, ls1⟩ ⟨q2, lp2, ls2⟩ (d, K) (d, K)
              · repeat (with_reducible exact Gv.Loc.hd)
              · repeat (first | with_reducible exact Gv.Loc.hd | with_reducible apply Gv.Loc.skip)
              · exact hob.1.ok.wf
              · rfl
              · exact hob.1.one
              · exact hob.2.1.b hkr
              · exact hob.2.2.b hks
            repeat' (conv => whnf
                     first
                     | (((with_reducible apply OnBB.yes); · rfl))
                     | (((with_reducible apply OnBB.no); · rfl))
                     | (with_reducible refine NextSt.mk ?_))
            conv => whnf
            with_reducible apply CallSt.loc (f := 45) (H := dHp ⟨p1, sb1, wb1⟩ d) (R := DR ⟨p1, sb1, wb1⟩ (d.restart []) noV)
            · (repeat (with_reducible exact Gv.Loc.left Gv.Loc.hd))
            · exact f45 _ d [] (hdB.ok (by omega)) (by decide) hkr _
            rintro _ _ ⟨⟨p3, sb3, wb3⟩, hp3, rfl, hk3, rfl⟩
            obtain rfl : p1 = p3 := hp3.symm
            repeat' (conv => whnf
                     first
                     | (with_reducible refine NextSt.mk ?_))
            conv => whnf
            with_reducible apply CallSt.loc (f := 46) (H := eHp ⟨p2, sb2, wb2⟩ d) (R := ER ⟨p2, sb2, wb2⟩ (d.restart []) noV)
            · (repeat (first | with_reducible exact Gv.Loc.left Gv.Loc.hd | with_reducible apply Gv.Loc.skip))
            · exact f46 _ d [] (hdB.ok (by omega)) (by decide) hks _
            rintro _ _ ⟨⟨p4, sb4, wb4⟩, hp4, rfl, hk4, rfl⟩
            obtain rfl : p2 = p4 := hp4.symm
            repeat' (conv => whnf
                     first
                     | (with_reducible refine NextSt.mk ?_))
            conv => whnf
            apply CallSt.rd (f := 51) (X := .bool true)
            · apply f51 ⟨p1, sb3, wb3⟩ ⟨p2, sb4, wb4⟩ (d.restart [])
              · (repeat (with_reducible exact Gv.Loc.left Gv.Loc.hd))
              · (repeat (first | with_reducible exact Gv.Loc.left Gv.Loc.hd | with_reducible apply Gv.Loc.skip))
              · exact hok.ok (by omega)
              · exact hk3
              · exact hk4
            repeat' (conv => whnf
                     first
                     | (with_reducible refine NextSt.mk ?_))
            conv => whnf
            refine FinSt.ret ?_ rfl
            repeat (first | exact List.Sublist.refl _ | apply List.Sublist.cons | apply sub_skip)
    · refine GSpec.enter (fn := Try.f13) Try.func13 rfl (by kernel_rfl) ?_
      repeat' (conv => whnf
               first
               | ((with_reducible refine CallSt.rd (f := 17) (X := .bool true) ?_ ?_); (· exact f17 _ _))
               | ((with_reducible refine CallSt.rd (f := 52) (X := .bool true) ?_ ?_); (· exact e52 _))
               | (with_reducible refine NextSt.mk ?_)
               | (with_reducible refine OnBB.tt ?_)
               | (with_reducible refine OnBB.ff ?_)
               | ((with_reducible apply Cmp.yes); · omega)
               | ((with_reducible apply LoadSt.boxAgg); · (repeat (exact List.Mem.head _)))
               | ((with_reducible refine AllocSt.mk ?_); intro _b _hb _hbO))
      all_goals (conv => whnf)
      all_goals refine FinSt.ret (by (try dsimp only); (try simp only [List.cons_append, List.nil_append]); (repeat (first | with_reducible exact List.Sublist.refl _ | with_reducible apply List.Sublist.cons))) ?_
      all_goals rfl
  · rw [decide_eq_false hf] at e52
    refine GSpec.enter (fn := Try.f13) Try.func13 rfl (by kernel_rfl) ?_
    repeat' (conv => whnf
             first
             | ((with_reducible refine CallSt.rd (f := 17) (X := .bool true) ?_ ?_); (· exact f17 _ _))
             | ((with_reducible refine CallSt.rd (f := 52) (X := .bool false) ?_ ?_); (· exact e52 _))
             | (with_reducible refine NextSt.mk ?_)
             | (with_reducible refine OnBB.tt ?_)
             | (with_reducible refine OnBB.ff ?_)
             | ((with_reducible apply LoadSt.boxAgg); · (repeat (exact List.Mem.head _)))
             | ((with_reducible refine AllocSt.mk ?_); intro _b _hb _hbO))
    all_goals (conv => whnf)
    all_goals refine FinSt.ret (by (try dsimp only); (try simp only [List.cons_append, List.nil_append]); (repeat (first | with_reducible exact List.Sublist.refl _ | with_reducible apply List.Sublist.cons))) ?_
    all_goals rfl
end Go.Proofs.Ytlbmlimaobkhpaa
