/- What was heard, sums; the law RadioHears. -/
import Derived.Test.YtlbmlimaobkhpaaJd
import Derived.Test.YtlbmlimaobkhpaaOa
import Derived.Test.YtlbmlimaobkhpaaHc
import Derived.Test.YtlbmlimaobkhpaaRb
set_option linter.unusedVariables false
set_option linter.unusedSimpArgs false
set_option linter.unusedSectionVars false
/- Heard, Sum. -/
namespace Go.Proofs.Ytlbmlimaobkhpaa
open Go Go.Gv
set_option maxRecDepth 100000
set_option maxHeartbeats 8000000
set_option linter.unusedSimpArgs false
set_option linter.unusedVariables false
theorem decV_cases (s : List UInt8) : decV s = (fr0, 0, 91) ∨ ∃ f n, frOk f ∧ decV s = (f, n, 0) := by
  unfold decV
  cases hw : decW s with
  | none => exact .inl rfl
  | some w =>
    refine .inr ⟨frOf w, ap w (nb s), ?_, rfl⟩
    unfold decW at hw
    split at hw
    · obtain ⟨u, hu, hw⟩ := Option.bind_eq_some_iff.1 hw
      split at hw
      · injection hw with hw
        subst hw; assumption
      · cases hw
    · cases hw
/-- The frames heard; how many were not to be read. -/
def hF1 (s : Str) : Option Fr := if (decV s).2.2 = 0 then some (decV s).1 else none
def hF (l : List Str) : List Fr := l.filterMap hF1
def nB (l : List Str) : Nat := (l.filter fun s => decide ((decV s).2.2 ≠ 0)).length
theorem hF_ok (l : List Str) : ∀ f ∈ hF l, frOk f := by
  intro f hf
  obtain ⟨s, -, hs⟩ := List.mem_filterMap.1 hf
  unfold hF1 at hs
  rcases decV_cases s with h | ⟨g, n, hg, h⟩
  · rw [h] at hs; cases hs
  · rw [h, if_pos rfl] at hs
    injection hs with hs
    subst hs; exact hg
theorem hF_len (l : List Str) : (hF l).length ≤ l.length := List.length_filterMap_le _ _
theorem nB_len (l : List Str) : nB l ≤ l.length := List.length_filter_le _ _
theorem hF_bad {l : List Str} {i : Nat} (hi : i < l.length) (h : decV (l.getD i []) = (fr0, 0, 91)) : hF (l.take (i + 1)) = hF (l.take i) ∧ nB (l.take (i + 1)) = nB (l.take i) + 1 := by
  rw [take_succ (d := []) hi]
  unfold hF nB
  rw [List.filterMap_append, List.filter_append, List.length_append]
  have e1 : hF1 (l.getD i []) = none := by unfold hF1; rw [h]; rfl
  refine ⟨by rw [List.filterMap_cons, e1]; simp, ?_⟩
  rw [List.filter_cons_of_pos (by rw [h]; rfl)]; rfl
theorem hF_good {l : List Str} {i : Nat} {f : Fr} {n : Nat} (hi : i < l.length) (h : decV (l.getD i []) = (f, n, 0)) : hF (l.take (i + 1)) = hF (l.take i) ++ [f] ∧ nB (l.take (i + 1)) = nB (l.take i) := by
  rw [take_succ (d := []) hi]
  unfold hF nB
  rw [List.filterMap_append, List.filter_append, List.length_append]
  have e1 : hF1 (l.getD i []) = some f := by unfold hF1; rw [h]; rfl
  refine ⟨by rw [List.filterMap_cons, e1]; simp, ?_⟩
  rw [List.filter_cons_of_neg (by rw [h]; simp)]; rfl
def HeR (l : List Str) (v : Value) (H : Hp) : Prop := ∃ x, v = .tuple ⟨[x, iN (nB l), .int .i64 0]⟩ ∧ LsR enV (gatR (hF l)) x H
theorem f72 (l : List Str) (a : Option Addr) (c : Nat) (hl : l.length ≤ 4096) (hs : ∀ i < l.length, (l.getD i []).length < 1000000) (h : View) (O : Hp) (hr : Rd h O a (l.map sV)) :
    GSpec Try.prog 72 [.slice a l.length c] h O (New O (HeR l)) := by
  refine GSpec.enter (fn := Try.f72) Try.func72 rfl (by kernel_rfl) ?_
  repeat' (conv => whnf
           first
           | (with_reducible refine NextSt.mk ?_)
           | (with_reducible refine OnBB.ff ?_)
           | ((with_reducible apply Cmp.no); · first | omega | (with_reducible assumption)))
  refine LoopSt.fix [5, 6, 8, 9, 10, 11, 17, 18, 19, 20, 21, 22, 23, 24, 25, 26, 27, 28, 29, 30, 31, 32, 33, 34, 35] (fun ((i, B) : Nat × Buf) => [(5, .slice B.a (hF (l.take i)).length B.cap), (6, iN (nB (l.take i))), (17, iN i)]) (fun (i, B) => B.hp 23 ((hF (l.take i)).flatMap frV) ++ O) (fun (i, B) => i ≤ l.length ∧ B.ok 5 ((hF (l.take i)).flatMap frV) (hF (l.take i)).length) (fun (i, B) => l.length - i) ((0, Buf.nil)) _ (Wk.refl _ _) (rfl) ?_ ?_ ?_
  · repeat' (first | exact True.intro | refine And.intro ?_ ?_ | rfl | exact congrArg (Value.int _) (by omega) | exact congrArg (fun n => Value.slice _ n _) (by (try dsimp only); omega))
  · exact ⟨Nat.zero_le _, Buf.nil_ok 5⟩
  · rintro ⟨i, B⟩ d ⟨hi, hB⟩
    dsimp only at hi hB ⊢
    by_cases hil : i < l.length
    · have e20 := fun h O => f20 (l.getD i []) (hs i hil) h O
      have hfl := hF_len (l.take i)
      have hbl := nB_len (l.take i)
      rw [List.length_take] at hfl hbl
      rcases decV_cases (l.getD i []) with hd | ⟨f, n, hf, hd⟩
      · obtain ⟨q1, q2⟩ := hF_bad hil hd
        rw [hd] at e20
        generalize hF (l.take i) = X at *
        generalize nB (l.take i) = N at *
        repeat' (conv => whnf
                 first
                 | (((with_reducible refine CallSt.rd (f := 20) (X := .tuple ⟨[.agg ⟨frV fr0⟩, iN 0, .int .i64 91]⟩) ?_ ?_); (· exact e20 _ _)))
                 | (with_reducible refine NextSt.mk ?_)
                 | (with_reducible refine OnBB.tt ?_)
                 | ((with_reducible apply NW.addN); (· first | with_reducible rfl | exact natL _); (· first | with_reducible rfl | exact natL _); (· omega))
                 | ((with_reducible apply Cmp.yes); · first | omega | (with_reducible assumption) | (with_reducible rfl))
                 | ((with_reducible apply LoadSt.rdS); (· (repeat (first | with_reducible assumption | (with_reducible apply Buf.rd; with_reducible assumption) | (with_reducible apply Rd.appL; with_reducible assumption) | (with_reducible apply Rd.appL; with_reducible apply Buf.rd; with_reducible assumption) | with_reducible apply Rd.cons | with_reducible apply Rd.appR))); · (first | omega | (simp only [List.length_map, List.length_append, List.length_cons, List.length_nil, List.length_take, List.length_drop, List.length_replicate, List.length_set] at *; omega)))
                 | ((with_reducible refine AllocSt.mk ?_); intro _b _hb _hbO)
                 | ((with_reducible apply StoreSt.box); (· (repeat (first | exact Upd.hd | apply Upd.tl | apply Upd.app))); (· rfl); (· rfl); (· rfl))
                 | ((with_reducible apply IdxSl.rd1); (· with_reducible assumption); (· rfl); (· first | with_reducible rfl | exact natL _); (· (first | omega | (simp only [List.length_map, List.length_append, List.length_cons, List.length_nil, List.length_take, List.length_drop, List.length_replicate, List.length_set] at *; omega))); · (first | omega | (simp only [List.length_map, List.length_append, List.length_cons, List.length_nil, List.length_take, List.length_drop, List.length_replicate, List.length_set] at *; omega))))
        refine RoundFix.mk (i + 1, B) ?_ ?_ _ rfl (by dsimp only; rw [q1]; exact Wk.drop (by (try dsimp only); (try simp only [List.cons_append, List.nil_append]); (repeat (first | with_reducible exact List.Sublist.refl _ | with_reducible exact List.nil_sublist _ | with_reducible apply List.Sublist.cons_cons | with_reducible apply sub_app | apply List.Sublist.cons_cons | apply sub_app | with_reducible apply List.Sublist.cons | with_reducible apply sub_skip)))) ?_
        · dsimp only; omega
        · dsimp only
          rw [q1, q2]
          repeat' (first | exact True.intro | refine And.intro ?_ ?_ | rfl | exact congrArg (Value.int _) (by omega) | exact congrArg (fun n => Value.slice _ n _) (by (try dsimp only); omega))
        · dsimp only
          rw [q1]
          exact ⟨hil, hB⟩
      · obtain ⟨q1, q2⟩ := hF_good hil hd
        rw [hd] at e20
        generalize hF (l.take i) = X at *
        generalize nB (l.take i) = N at *
        obtain ⟨fo, fn, fp, fq, fb⟩ := f
        repeat' (conv => whnf
                 first
                 | (((with_reducible refine CallSt.rd (f := 20) (X := .tuple ⟨[.agg ⟨[.int .i64 fo, .int .i64 fn, .int .i64 fp, .int .i64 fq, sV fb]⟩, iN n, .int .i64 0]⟩) ?_ ?_); (· exact e20 _ _)))
                 | (((apply AppSt.litm (g := frV) (x := ⟨fo, fn, fp, fq, fb⟩) (xs := X) (s := 5) (z := .agg ⟨[.int .i64 0, .int .i64 0, .int .i64 0, .int .i64 0, sV []]⟩)); (· (repeat (first | with_reducible exact Loc.hd | with_reducible exact Loc.last | with_reducible exact Loc.one | with_reducible apply Loc.tl | with_reducible apply Loc.skip))); (· exact hB); (· (repeat (first | exact List.Mem.head _ | with_reducible apply List.mem_append_right | with_reducible apply List.mem_cons_of_mem))); (· rfl); (· rfl); (· rfl); (· rfl); (· rfl); (· rfl); (· rfl); (· (show _ * 48 ≤ _; omega)); (· omega); intro B1 hB1))
                 | (with_reducible refine NextSt.mk ?_)
                 | (with_reducible refine OnBB.tt ?_)
                 | (with_reducible refine OnBB.ff ?_)
                 | ((with_reducible apply NW.addN); (· first | with_reducible rfl | exact natL _); (· first | with_reducible rfl | exact natL _); (· omega))
                 | ((with_reducible apply Cmp.yes); · first | omega | (with_reducible assumption) | (with_reducible rfl))
                 | ((with_reducible apply Cmp.no); · first | omega | (with_reducible assumption))
                 | ((with_reducible apply LoadSt.boxAgg); · (repeat (first | exact List.Mem.head _ | with_reducible apply List.mem_append_right | with_reducible apply List.mem_cons_of_mem)))
                 | ((with_reducible apply LoadSt.rdS); (· (repeat (first | with_reducible assumption | (with_reducible apply Buf.rd; with_reducible assumption) | (with_reducible apply Rd.appL; with_reducible assumption) | (with_reducible apply Rd.appL; with_reducible apply Buf.rd; with_reducible assumption) | with_reducible apply Rd.cons | with_reducible apply Rd.appR))); · (first | omega | (simp only [List.length_map, List.length_append, List.length_cons, List.length_nil, List.length_take, List.length_drop, List.length_replicate, List.length_set] at *; omega)))
                 | ((with_reducible refine AllocSt.mk ?_); intro _b _hb _hbO)
                 | ((with_reducible apply StoreSt.box); (· (repeat (first | exact Upd.hd | apply Upd.tl | apply Upd.app))); (· rfl); (· rfl); (· rfl))
                 | ((with_reducible apply IdxSl.rd1); (· with_reducible assumption); (· rfl); (· first | with_reducible rfl | exact natL _); (· (first | omega | (simp only [List.length_map, List.length_append, List.length_cons, List.length_nil, List.length_take, List.length_drop, List.length_replicate, List.length_set] at *; omega))); · (first | omega | (simp only [List.length_map, List.length_append, List.length_cons, List.length_nil, List.length_take, List.length_drop, List.length_replicate, List.length_set] at *; omega))))
        refine RoundFix.mk (i + 1, B1) ?_ ?_ _ rfl (by dsimp only; rw [q1]; exact Wk.drop (by (try dsimp only); (try simp only [List.cons_append, List.nil_append]); (repeat (first | with_reducible exact List.Sublist.refl _ | with_reducible exact List.nil_sublist _ | with_reducible apply List.Sublist.cons_cons | with_reducible apply sub_app | apply List.Sublist.cons_cons | apply sub_app | with_reducible apply List.Sublist.cons | with_reducible apply sub_skip)))) ?_
        · dsimp only; omega
        · dsimp only
          rw [q1, q2]
          simp only [List.length_append, List.length_cons, List.length_nil]
          repeat' (first | exact True.intro | refine And.intro ?_ ?_ | rfl | exact congrArg (Value.int _) (by omega) | exact congrArg (fun n => Value.slice _ n _) (by (try dsimp only); omega))
        · dsimp only
          rw [q1]
          simp only [List.length_append, List.length_cons, List.length_nil]
          exact ⟨hil, hB1⟩
    · have : i = l.length := by omega
      subst this
      rw [List.take_length] at hB ⊢
      have e136 := fun h O hr => f136 (hF l) B.a B.cap (hF_ok l) (Nat.le_trans (hF_len l) hl) h O hr
      repeat' (conv => whnf
               first
               | (((with_reducible refine CallSt.new (f := 136) (R := LsR enV (gatR (hF l))) ?_ ?_); (· exact e136 _ _ (by (repeat (first | with_reducible assumption | (with_reducible apply Buf.rd; with_reducible assumption) | (with_reducible apply Rd.appL; with_reducible assumption) | (with_reducible apply Rd.appL; with_reducible apply Buf.rd; with_reducible assumption) | with_reducible apply Rd.cons | with_reducible apply Rd.appR)))); rintro _ _H ⟨_a, _c, rfl, _hra, _hlc⟩))
               | (with_reducible refine NextSt.mk ?_)
               | (with_reducible refine OnBB.ff ?_)
               | ((with_reducible apply Cmp.no); · first | omega | (with_reducible assumption)))
      conv => whnf
      refine FinSt.new (H := _H) (by (try dsimp only); (try simp only [List.cons_append, List.nil_append]); (repeat (first | with_reducible exact List.Sublist.refl _ | with_reducible exact List.nil_sublist _ | with_reducible apply List.Sublist.cons_cons | with_reducible apply sub_app | apply List.Sublist.cons_cons | apply sub_app | with_reducible apply List.Sublist.cons | with_reducible apply sub_skip))) ?_
      exact ⟨_, rfl, _, _, rfl, _hra, _hlc⟩
theorem f73 (l : List Str) (a : Option Addr) (c : Nat) (hl : l.length ≤ 4096) (hs : ∀ i < l.length, (l.getD i []).length < 1000000) (h : View) (O : Hp) (hr : Rd h O a (l.map sV)) :
    GSpec Try.prog 73 [.slice a l.length c] h O (New O (HeR l)) := by
  refine GSpec.enter (fn := Try.f73) Try.func73 rfl (by kernel_rfl) ?_
  repeat' (conv => whnf
           first
           | (with_reducible refine NextSt.mk ?_)
           | (with_reducible refine OnBB.ff ?_)
           | ((with_reducible apply Cmp.no); · first | omega | (with_reducible assumption)))
  refine LoopSt.fix [5, 6, 7, 8, 9, 10, 16, 17, 18, 19, 20, 21, 22, 23, 24, 25, 26, 27, 28, 29, 30, 31, 32, 33, 34, 35, 36, 37, 38] (fun ((i, B) : Nat × Buf) => [(5, .slice B.a (hF (l.take i)).length B.cap), (6, iN (nB (l.take i))), (7, iN i)]) (fun (i, B) => B.hp 23 ((hF (l.take i)).flatMap frV) ++ O) (fun (i, B) => i ≤ l.length ∧ B.ok 5 ((hF (l.take i)).flatMap frV) (hF (l.take i)).length) (fun (i, B) => l.length - i) ((0, Buf.nil)) _ (Wk.refl _ _) (rfl) ?_ ?_ ?_
  · repeat' (first | exact True.intro | refine And.intro ?_ ?_ | rfl | exact congrArg (Value.int _) (by omega) | exact congrArg (fun n => Value.slice _ n _) (by (try dsimp only); omega))
  · exact ⟨Nat.zero_le _, Buf.nil_ok 5⟩
  · rintro ⟨i, B⟩ d ⟨hi, hB⟩
    dsimp only at hi hB ⊢
    by_cases hil : i < l.length
    · have e21 := fun h O => f21 (l.getD i []) (hs i hil) h O
      have hfl := hF_len (l.take i)
      have hbl := nB_len (l.take i)
      rw [List.length_take] at hfl hbl
      rcases decV_cases (l.getD i []) with hd | ⟨f, n, hf, hd⟩
      · obtain ⟨q1, q2⟩ := hF_bad hil hd
        rw [hd] at e21
        generalize hF (l.take i) = X at *
        generalize nB (l.take i) = N at *
        repeat' (conv => whnf
                 first
                 | (((with_reducible refine CallSt.rd (f := 21) (X := .tuple ⟨[.agg ⟨frV fr0⟩, iN 0, .int .i64 91]⟩) ?_ ?_); (· exact e21 _ _)))
                 | (with_reducible refine NextSt.mk ?_)
                 | (with_reducible refine OnBB.tt ?_)
                 | ((with_reducible apply NW.addN); (· first | with_reducible rfl | exact natL _); (· first | with_reducible rfl | exact natL _); (· omega))
                 | ((with_reducible apply Cmp.yes); · first | omega | (with_reducible assumption) | (with_reducible rfl))
                 | ((with_reducible apply LoadSt.rdS); (· (repeat (first | with_reducible assumption | (with_reducible apply Buf.rd; with_reducible assumption) | (with_reducible apply Rd.appL; with_reducible assumption) | (with_reducible apply Rd.appL; with_reducible apply Buf.rd; with_reducible assumption) | with_reducible apply Rd.cons | with_reducible apply Rd.appR))); · (first | omega | (simp only [List.length_map, List.length_append, List.length_cons, List.length_nil, List.length_take, List.length_drop, List.length_replicate, List.length_set] at *; omega)))
                 | ((with_reducible refine AllocSt.mk ?_); intro _b _hb _hbO)
                 | ((with_reducible apply StoreSt.box); (· (repeat (first | exact Upd.hd | apply Upd.tl | apply Upd.app))); (· rfl); (· rfl); (· rfl))
                 | ((with_reducible apply IdxSl.rd1); (· with_reducible assumption); (· rfl); (· first | with_reducible rfl | exact natL _); (· (first | omega | (simp only [List.length_map, List.length_append, List.length_cons, List.length_nil, List.length_take, List.length_drop, List.length_replicate, List.length_set] at *; omega))); · (first | omega | (simp only [List.length_map, List.length_append, List.length_cons, List.length_nil, List.length_take, List.length_drop, List.length_replicate, List.length_set] at *; omega))))
        refine RoundFix.mk (i + 1, B) ?_ ?_ _ rfl (by dsimp only; rw [q1]; exact Wk.drop (by (try dsimp only); (try simp only [List.cons_append, List.nil_append]); (repeat (first | with_reducible exact List.Sublist.refl _ | with_reducible exact List.nil_sublist _ | with_reducible apply List.Sublist.cons_cons | with_reducible apply sub_app | apply List.Sublist.cons_cons | apply sub_app | with_reducible apply List.Sublist.cons | with_reducible apply sub_skip)))) ?_
        · dsimp only; omega
        · dsimp only
          rw [q1, q2]
          repeat' (first | exact True.intro | refine And.intro ?_ ?_ | rfl | exact congrArg (Value.int _) (by omega) | exact congrArg (fun n => Value.slice _ n _) (by (try dsimp only); omega))
        · dsimp only
          rw [q1]
          exact ⟨hil, hB⟩
      · obtain ⟨q1, q2⟩ := hF_good hil hd
        rw [hd] at e21
        generalize hF (l.take i) = X at *
        generalize nB (l.take i) = N at *
        obtain ⟨fo, fn, fp, fq, fb⟩ := f
        repeat' (conv => whnf
                 first
                 | (((with_reducible refine CallSt.rd (f := 21) (X := .tuple ⟨[.agg ⟨[.int .i64 fo, .int .i64 fn, .int .i64 fp, .int .i64 fq, sV fb]⟩, iN n, .int .i64 0]⟩) ?_ ?_); (· exact e21 _ _)))
                 | (((apply AppSt.litm (g := frV) (x := ⟨fo, fn, fp, fq, fb⟩) (xs := X) (s := 5) (z := .agg ⟨[.int .i64 0, .int .i64 0, .int .i64 0, .int .i64 0, sV []]⟩)); (· (repeat (first | with_reducible exact Loc.hd | with_reducible exact Loc.last | with_reducible exact Loc.one | with_reducible apply Loc.tl | with_reducible apply Loc.skip))); (· exact hB); (· (repeat (first | exact List.Mem.head _ | with_reducible apply List.mem_append_right | with_reducible apply List.mem_cons_of_mem))); (· rfl); (· rfl); (· rfl); (· rfl); (· rfl); (· rfl); (· rfl); (· (show _ * 48 ≤ _; omega)); (· omega); intro B1 hB1))
                 | (with_reducible refine NextSt.mk ?_)
                 | (with_reducible refine OnBB.tt ?_)
                 | (with_reducible refine OnBB.ff ?_)
                 | ((with_reducible apply NW.addN); (· first | with_reducible rfl | exact natL _); (· first | with_reducible rfl | exact natL _); (· omega))
                 | ((with_reducible apply Cmp.yes); · first | omega | (with_reducible assumption) | (with_reducible rfl))
                 | ((with_reducible apply Cmp.no); · first | omega | (with_reducible assumption))
                 | ((with_reducible apply LoadSt.boxAgg); · (repeat (first | exact List.Mem.head _ | with_reducible apply List.mem_append_right | with_reducible apply List.mem_cons_of_mem)))
                 | ((with_reducible apply LoadSt.rdS); (· (repeat (first | with_reducible assumption | (with_reducible apply Buf.rd; with_reducible assumption) | (with_reducible apply Rd.appL; with_reducible assumption) | (with_reducible apply Rd.appL; with_reducible apply Buf.rd; with_reducible assumption) | with_reducible apply Rd.cons | with_reducible apply Rd.appR))); · (first | omega | (simp only [List.length_map, List.length_append, List.length_cons, List.length_nil, List.length_take, List.length_drop, List.length_replicate, List.length_set] at *; omega)))
                 | ((with_reducible refine AllocSt.mk ?_); intro _b _hb _hbO)
                 | ((with_reducible apply StoreSt.box); (· (repeat (first | exact Upd.hd | apply Upd.tl | apply Upd.app))); (· rfl); (· rfl); (· rfl))
                 | ((with_reducible apply IdxSl.rd1); (· with_reducible assumption); (· rfl); (· first | with_reducible rfl | exact natL _); (· (first | omega | (simp only [List.length_map, List.length_append, List.length_cons, List.length_nil, List.length_take, List.length_drop, List.length_replicate, List.length_set] at *; omega))); · (first | omega | (simp only [List.length_map, List.length_append, List.length_cons, List.length_nil, List.length_take, List.length_drop, List.length_replicate, List.length_set] at *; omega))))
        refine RoundFix.mk (i + 1, B1) ?_ ?_ _ rfl (by dsimp only; rw [q1]; exact Wk.drop (by (try dsimp only); (try simp only [List.cons_append, List.nil_append]); (repeat (first | with_reducible exact List.Sublist.refl _ | with_reducible exact List.nil_sublist _ | with_reducible apply List.Sublist.cons_cons | with_reducible apply sub_app | apply List.Sublist.cons_cons | apply sub_app | with_reducible apply List.Sublist.cons | with_reducible apply sub_skip)))) ?_
        · dsimp only; omega
        · dsimp only
          rw [q1, q2]
          simp only [List.length_append, List.length_cons, List.length_nil]
          repeat' (first | exact True.intro | refine And.intro ?_ ?_ | rfl | exact congrArg (Value.int _) (by omega) | exact congrArg (fun n => Value.slice _ n _) (by (try dsimp only); omega))
        · dsimp only
          rw [q1]
          simp only [List.length_append, List.length_cons, List.length_nil]
          exact ⟨hil, hB1⟩
    · have : i = l.length := by omega
      subst this
      rw [List.take_length] at hB ⊢
      have hg0 : gE (hF l) = 0 := by
        unfold gE
        rw [if_pos (Nat.le_trans (hF_len l) hl), if_pos (hF_ok l)]
      have hg1 : gL (hF l) = gatR (hF l) := if_pos hg0
      have e79 := fun h O hr => f79 (hF l) B.a B.cap (by have := hF_len l; omega) (fun i hi => by have := hF_ok l _ (getD_mem (d := default) hi); obtain ⟨a1, a2, a3, a4, a5, a6, a7, a8, a9, -⟩ := this; omega) h O hr
      rw [hg0, hg1] at e79
      repeat' (conv => whnf
               first
               | (((with_reducible refine CallSt.new (f := 79) (R := (fun v H => ∃ x, v = .tuple ⟨[x, .int .i64 0]⟩ ∧ LsR enV (gatR (hF l)) x H)) ?_ ?_); (· exact e79 _ _ (by (repeat (first | with_reducible assumption | (with_reducible apply Buf.rd; with_reducible assumption) | (with_reducible apply Rd.appL; with_reducible assumption) | (with_reducible apply Rd.appL; with_reducible apply Buf.rd; with_reducible assumption) | with_reducible apply Rd.cons | with_reducible apply Rd.appR)))); rintro _ _H ⟨_, rfl, _a, _c, rfl, _hra, _hlc⟩))
               | (with_reducible refine NextSt.mk ?_)
               | (with_reducible refine OnBB.ff ?_)
               | ((with_reducible apply Cmp.no); · first | omega | (with_reducible assumption)))
      conv => whnf
      refine FinSt.new (H := _H) (by (try dsimp only); (try simp only [List.cons_append, List.nil_append]); (repeat (first | with_reducible exact List.Sublist.refl _ | with_reducible exact List.nil_sublist _ | with_reducible apply List.Sublist.cons_cons | with_reducible apply sub_app | apply List.Sublist.cons_cons | apply sub_app | with_reducible apply List.Sublist.cons | with_reducible apply sub_skip))) ?_
      exact ⟨_, rfl, _, _, rfl, _hra, _hlc⟩
end Go.Proofs.Ytlbmlimaobkhpaa
/- Sum of any list; the law RadioHears. -/
namespace Go.Proofs.Ytlbmlimaobkhpaa
open Go Go.Gv
set_option maxRecDepth 100000
set_option maxHeartbeats 8000000
set_option linter.unusedSimpArgs false
set_option linter.unusedVariables false
def sumE (l : List En) : Nat × Int := if ∀ e ∈ l, enOk e then (sumL l, 0) else (0, 92)
def sumR (p : Nat × Int) : Value := .tuple ⟨[uN p.1, .int .i64 p.2]⟩
theorem sumE_no {l : List En} {i : Nat} (hi : i < l.length) (h : ¬ enOk (l.getD i default)) : sumE l = (0, 92) := if_neg fun e => h (e _ (getD_mem hi))
theorem all_of {l : List En} (h : ∀ i < l.length, enOk (l.getD i default)) : ∀ e ∈ l, enOk e := by
  intro e he
  obtain ⟨i, hi, rfl⟩ := List.mem_iff_getElem.1 he
  have := h i hi
  rwa [List.getD_eq_getElem?_getD, List.getElem?_eq_getElem hi] at this
theorem f74s (l : List En) (a : Option Addr) (c : Nat) (hl : l.length ≤ 1000) (hb : ∀ i < l.length, (l.getD i default).body.length < 1000000) (h : View) (O : Hp) (hr : Rd h O a (l.flatMap enV)) :
    GSpec Try.prog 74 [.slice a l.length c] h O (Ret O (sumR (sumE l))) := by
  refine GSpec.enter (fn := Try.f74) Try.func74 rfl (by kernel_rfl) ?_
  repeat' (conv => whnf
           first
           | (with_reducible refine NextSt.mk ?_))
  refine LoopSt.fix [2, 3, 5, 6, 9, 10, 11, 12, 13, 14, 15, 16, 17, 18] (fun (k : Nat) => [(9, iN k)]) (fun _ => _) (fun k => k ≤ l.length ∧ ∀ j < k, enOk (l.getD j default)) (fun k => l.length - k) (0) _ (Wk.refl _ _) (rfl) ?_ ?_ ?_
  · repeat' (first | exact True.intro | refine And.intro ?_ ?_ | rfl | exact congrArg (Value.int _) (by omega) | exact congrArg (fun n => Value.slice _ n _) (by (try dsimp only); omega))
  · exact ⟨Nat.zero_le _, fun j hj => by omega⟩
  · rintro k d2 ⟨hk, hall⟩
    by_cases hkl : k < l.length
    · have e82 := fun h O => f82 (l.getD k default) (hb k hkl) h O
      by_cases hok : enOk (l.getD k default)
      · rw [show chkE (l.getD k default) = 0 from if_pos hok] at e82
        repeat' (conv => whnf
                 first
                 | (((with_reducible refine CallSt.rd (f := 82) (X := .int .i64 0) ?_ ?_); (· exact e82 _ _)))
                 | (((with_reducible apply Cmp.no); · exact fun h => h rfl))
                 | ((with_reducible apply LoadSt.rdg (g := enV) (s := 3)); (· rfl); (· (repeat (first | with_reducible assumption | (with_reducible apply Buf.rd; with_reducible assumption) | (with_reducible apply Rd.appL; with_reducible assumption) | (with_reducible apply Rd.appL; with_reducible apply Buf.rd; with_reducible assumption) | with_reducible apply Rd.cons | with_reducible apply Rd.appR))); (· exact fun _ => rfl); (· decide); · (first | omega | (simp only [List.length_map, List.length_append, List.length_cons, List.length_nil, List.length_take, List.length_drop, List.length_replicate, List.length_set] at *; omega)))
                 | ((with_reducible apply IdxSl.rdg (g := enV) (s := 3)); (· with_reducible assumption); (· exact fun _ => rfl); (· decide); (· rfl); (· first | with_reducible rfl | exact natL _); (· (first | omega | (simp only [List.length_map, List.length_append, List.length_cons, List.length_nil, List.length_take, List.length_drop, List.length_replicate, List.length_set] at *; omega))); · (first | omega | (simp only [List.length_map, List.length_append, List.length_cons, List.length_nil, List.length_take, List.length_drop, List.length_replicate, List.length_set] at *; omega)))
                 | (with_reducible refine NextSt.mk ?_)
                 | (with_reducible refine OnBB.tt ?_)
                 | (with_reducible refine OnBB.ff ?_)
                 | ((with_reducible apply NW.addN); (· first | with_reducible rfl | exact natL _); (· first | with_reducible rfl | exact natL _); (· omega))
                 | ((with_reducible apply Cmp.yes); · first | omega | (with_reducible assumption) | (with_reducible rfl))
                 | ((with_reducible apply LoadSt.boxAgg); · (repeat (first | exact List.Mem.head _ | with_reducible apply List.mem_append_right | with_reducible apply List.mem_cons_of_mem)))
                 | ((with_reducible refine AllocSt.mk ?_); intro _b _hb _hbO)
                 | ((with_reducible apply StoreSt.box); (· (repeat (first | exact Upd.hd | apply Upd.tl | apply Upd.app))); (· rfl); (· rfl); (· rfl)))
        refine RoundFix.mk (k + 1) ?_ ?_ _ rfl (Wk.drop (by (try dsimp only); (try simp only [List.cons_append, List.nil_append]); (repeat (first | with_reducible exact List.Sublist.refl _ | with_reducible exact List.nil_sublist _ | with_reducible apply List.Sublist.cons_cons | with_reducible apply sub_app | apply List.Sublist.cons_cons | apply sub_app | with_reducible apply List.Sublist.cons | with_reducible apply sub_skip)))) ?_
        · omega
        · repeat' (first | exact True.intro | refine And.intro ?_ ?_ | rfl | exact congrArg (Value.int _) (by omega) | exact congrArg (fun n => Value.slice _ n _) (by (try dsimp only); omega))
        · refine ⟨hkl, fun j hj => ?_⟩
          by_cases e : j = k
          · rw [e]; exact hok
          · exact hall j (by omega)
      · rw [show chkE (l.getD k default) = 92 from if_neg hok] at e82
        rw [sumE_no hkl hok]
        repeat' (conv => whnf
                 first
                 | (((with_reducible refine CallSt.rd (f := 82) (X := .int .i64 92) ?_ ?_); (· exact e82 _ _)))
                 | (((with_reducible apply Cmp.yes); · (intro e; cases e)))
                 | ((with_reducible apply LoadSt.rdg (g := enV) (s := 3)); (· rfl); (· (repeat (first | with_reducible assumption | (with_reducible apply Buf.rd; with_reducible assumption) | (with_reducible apply Rd.appL; with_reducible assumption) | (with_reducible apply Rd.appL; with_reducible apply Buf.rd; with_reducible assumption) | with_reducible apply Rd.cons | with_reducible apply Rd.appR))); (· exact fun _ => rfl); (· decide); · (first | omega | (simp only [List.length_map, List.length_append, List.length_cons, List.length_nil, List.length_take, List.length_drop, List.length_replicate, List.length_set] at *; omega)))
                 | ((with_reducible apply IdxSl.rdg (g := enV) (s := 3)); (· with_reducible assumption); (· exact fun _ => rfl); (· decide); (· rfl); (· first | with_reducible rfl | exact natL _); (· (first | omega | (simp only [List.length_map, List.length_append, List.length_cons, List.length_nil, List.length_take, List.length_drop, List.length_replicate, List.length_set] at *; omega))); · (first | omega | (simp only [List.length_map, List.length_append, List.length_cons, List.length_nil, List.length_take, List.length_drop, List.length_replicate, List.length_set] at *; omega)))
                 | (with_reducible refine NextSt.mk ?_)
                 | (with_reducible refine OnBB.tt ?_)
                 | ((with_reducible apply Cmp.yes); · first | omega | (with_reducible assumption) | (with_reducible rfl))
                 | ((with_reducible apply LoadSt.boxAgg); · (repeat (first | exact List.Mem.head _ | with_reducible apply List.mem_append_right | with_reducible apply List.mem_cons_of_mem)))
                 | ((with_reducible refine AllocSt.mk ?_); intro _b _hb _hbO)
                 | ((with_reducible apply StoreSt.box); (· (repeat (first | exact Upd.hd | apply Upd.tl | apply Upd.app))); (· rfl); (· rfl); (· rfl)))
        conv => whnf
        refine FinSt.ret (by (try dsimp only); (try simp only [List.cons_append, List.nil_append]); (repeat (first | with_reducible exact List.Sublist.refl _ | with_reducible exact List.nil_sublist _ | with_reducible apply List.Sublist.cons_cons | with_reducible apply sub_app | apply List.Sublist.cons_cons | apply sub_app | with_reducible apply List.Sublist.cons | with_reducible apply sub_skip))) ?_
        rfl
    · have : k = l.length := by omega
      subst this
      have hok := all_of hall
      rw [show sumE l = (sumL l, 0) from if_pos hok]
      repeat' (conv => whnf
               first
               | ((with_reducible refine CallSt.rd (f := 117) (X := uN (sumL l)) ?_ ?_); (· exact f117 l a c hl hok _ _ hr))
               | (with_reducible refine NextSt.mk ?_)
               | (with_reducible refine OnBB.ff ?_)
               | ((with_reducible apply Cmp.no); · first | omega | (with_reducible assumption)))
      conv => whnf
      refine FinSt.ret (by (try dsimp only); (try simp only [List.cons_append, List.nil_append]); (repeat (first | with_reducible exact List.Sublist.refl _ | with_reducible exact List.nil_sublist _ | with_reducible apply List.Sublist.cons_cons | with_reducible apply sub_app | apply List.Sublist.cons_cons | apply sub_app | with_reducible apply List.Sublist.cons | with_reducible apply sub_skip))) ?_
      rfl
theorem f75s (l : List En) (a : Option Addr) (c : Nat) (hl : l.length ≤ 1000) (hb : ∀ i < l.length, (l.getD i default).body.length < 1000000) (h : View) (O : Hp) (hr : Rd h O a (l.flatMap enV)) :
    GSpec Try.prog 75 [.slice a l.length c] h O (Ret O (sumR (sumE l))) := by
  refine GSpec.enter (fn := Try.f75) Try.func75 rfl (by kernel_rfl) ?_
  repeat' (conv => whnf
           first
           | (with_reducible refine NextSt.mk ?_))
  refine LoopSt.fix [2, 3, 4, 5, 6, 7, 8, 9, 10, 11, 12, 13, 14, 15, 16] (fun (k : Nat) => [(4, iN k)]) (fun _ => _) (fun k => k ≤ l.length ∧ ∀ j < k, enOk (l.getD j default)) (fun k => l.length - k) (0) _ (Wk.refl _ _) (rfl) ?_ ?_ ?_
  · repeat' (first | exact True.intro | refine And.intro ?_ ?_ | rfl | exact congrArg (Value.int _) (by omega) | exact congrArg (fun n => Value.slice _ n _) (by (try dsimp only); omega))
  · exact ⟨Nat.zero_le _, fun j hj => by omega⟩
  · rintro k d2 ⟨hk, hall⟩
    by_cases hkl : k < l.length
    · have e83 := fun h O => f83 (l.getD k default) (hb k hkl) h O
      by_cases hok : enOk (l.getD k default)
      · rw [show chkE (l.getD k default) = 0 from if_pos hok] at e83
        repeat' (conv => whnf
                 first
                 | (((with_reducible refine CallSt.rd (f := 83) (X := .int .i64 0) ?_ ?_); (· exact e83 _ _)))
                 | (((with_reducible apply Cmp.no); · exact fun h => h rfl))
                 | ((with_reducible apply LoadSt.rdg (g := enV) (s := 3)); (· rfl); (· (repeat (first | with_reducible assumption | (with_reducible apply Buf.rd; with_reducible assumption) | (with_reducible apply Rd.appL; with_reducible assumption) | (with_reducible apply Rd.appL; with_reducible apply Buf.rd; with_reducible assumption) | with_reducible apply Rd.cons | with_reducible apply Rd.appR))); (· exact fun _ => rfl); (· decide); · (first | omega | (simp only [List.length_map, List.length_append, List.length_cons, List.length_nil, List.length_take, List.length_drop, List.length_replicate, List.length_set] at *; omega)))
                 | ((with_reducible apply IdxSl.rdg (g := enV) (s := 3)); (· with_reducible assumption); (· exact fun _ => rfl); (· decide); (· rfl); (· first | with_reducible rfl | exact natL _); (· (first | omega | (simp only [List.length_map, List.length_append, List.length_cons, List.length_nil, List.length_take, List.length_drop, List.length_replicate, List.length_set] at *; omega))); · (first | omega | (simp only [List.length_map, List.length_append, List.length_cons, List.length_nil, List.length_take, List.length_drop, List.length_replicate, List.length_set] at *; omega)))
                 | (with_reducible refine NextSt.mk ?_)
                 | (with_reducible refine OnBB.tt ?_)
                 | (with_reducible refine OnBB.ff ?_)
                 | ((with_reducible apply NW.addN); (· first | with_reducible rfl | exact natL _); (· first | with_reducible rfl | exact natL _); (· omega))
                 | ((with_reducible apply Cmp.yes); · first | omega | (with_reducible assumption) | (with_reducible rfl)))
        refine RoundFix.mk (k + 1) ?_ ?_ _ rfl (Wk.drop (by (try dsimp only); (try simp only [List.cons_append, List.nil_append]); (repeat (first | with_reducible exact List.Sublist.refl _ | with_reducible exact List.nil_sublist _ | with_reducible apply List.Sublist.cons_cons | with_reducible apply sub_app | apply List.Sublist.cons_cons | apply sub_app | with_reducible apply List.Sublist.cons | with_reducible apply sub_skip)))) ?_
        · omega
        · repeat' (first | exact True.intro | refine And.intro ?_ ?_ | rfl | exact congrArg (Value.int _) (by omega) | exact congrArg (fun n => Value.slice _ n _) (by (try dsimp only); omega))
        · refine ⟨hkl, fun j hj => ?_⟩
          by_cases e : j = k
          · rw [e]; exact hok
          · exact hall j (by omega)
      · rw [show chkE (l.getD k default) = 92 from if_neg hok] at e83
        rw [sumE_no hkl hok]
        repeat' (conv => whnf
                 first
                 | (((with_reducible refine CallSt.rd (f := 83) (X := .int .i64 92) ?_ ?_); (· exact e83 _ _)))
                 | (((with_reducible apply Cmp.yes); · (intro e; cases e)))
                 | ((with_reducible apply LoadSt.rdg (g := enV) (s := 3)); (· rfl); (· (repeat (first | with_reducible assumption | (with_reducible apply Buf.rd; with_reducible assumption) | (with_reducible apply Rd.appL; with_reducible assumption) | (with_reducible apply Rd.appL; with_reducible apply Buf.rd; with_reducible assumption) | with_reducible apply Rd.cons | with_reducible apply Rd.appR))); (· exact fun _ => rfl); (· decide); · (first | omega | (simp only [List.length_map, List.length_append, List.length_cons, List.length_nil, List.length_take, List.length_drop, List.length_replicate, List.length_set] at *; omega)))
                 | ((with_reducible apply IdxSl.rdg (g := enV) (s := 3)); (· with_reducible assumption); (· exact fun _ => rfl); (· decide); (· rfl); (· first | with_reducible rfl | exact natL _); (· (first | omega | (simp only [List.length_map, List.length_append, List.length_cons, List.length_nil, List.length_take, List.length_drop, List.length_replicate, List.length_set] at *; omega))); · (first | omega | (simp only [List.length_map, List.length_append, List.length_cons, List.length_nil, List.length_take, List.length_drop, List.length_replicate, List.length_set] at *; omega)))
                 | (with_reducible refine NextSt.mk ?_)
                 | (with_reducible refine OnBB.tt ?_)
                 | ((with_reducible apply Cmp.yes); · first | omega | (with_reducible assumption) | (with_reducible rfl)))
        conv => whnf
        refine FinSt.ret (by (try dsimp only); (try simp only [List.cons_append, List.nil_append]); (repeat (first | with_reducible exact List.Sublist.refl _ | with_reducible exact List.nil_sublist _ | with_reducible apply List.Sublist.cons_cons | with_reducible apply sub_app | apply List.Sublist.cons_cons | apply sub_app | with_reducible apply List.Sublist.cons | with_reducible apply sub_skip))) ?_
        rfl
    · have : k = l.length := by omega
      subst this
      have hok := all_of hall
      rw [show sumE l = (sumL l, 0) from if_pos hok]
      repeat' (conv => whnf
               first
               | ((with_reducible refine CallSt.rd (f := 137) (X := uN (sumL l)) ?_ ?_); (· exact f137 l a c hl hok _ _ hr))
               | (with_reducible refine NextSt.mk ?_)
               | (with_reducible refine OnBB.ff ?_)
               | ((with_reducible apply Cmp.no); · first | omega | (with_reducible assumption)))
      conv => whnf
      refine FinSt.ret (by (try dsimp only); (try simp only [List.cons_append, List.nil_append]); (repeat (first | with_reducible exact List.Sublist.refl _ | with_reducible exact List.nil_sublist _ | with_reducible apply List.Sublist.cons_cons | with_reducible apply sub_app | apply List.Sublist.cons_cons | apply sub_app | with_reducible apply List.Sublist.cons | with_reducible apply sub_skip))) ?_
      rfl
theorem gatR_w {l : List Fr} (hl : ∀ f ∈ l, frOk f) : ∀ e ∈ gatR l, enOk e := by
  intro e he
  obtain ⟨h1, h2, i, hi, hw⟩ := ((gatR_least l).mem e he).1
  have hb : ∀ f ∈ l, f.body.length ≤ 32 := fun f hf => by
    obtain ⟨a1, a2, a3, a4, a5, a6, a7, a8, a9, -⟩ := hl f hf
    exact a9
  have := wholeT_len hb e.office e.no (p := (i : Int) + 1) (by omega) hw
  exact ⟨h1.1, h1.2, h2.1, h2.2, this⟩
theorem gatR_len (l : List Fr) : (gatR l).length ≤ 512 := by
  have key : ∀ (f : Nat → List En) (n k : Nat), (∀ i < n, (f i).length ≤ k) → ((List.range n).flatMap f).length ≤ n * k := by
    intro f n k
    induction n with
    | zero => simp
    | succ n ih =>
      intro h
      rw [List.range_succ, List.flatMap_append, List.length_append]
      have h1 := ih fun i hi => h i (by omega)
      have h2 := h n (by omega)
      simp only [List.flatMap_cons, List.flatMap_nil, List.append_nil, Nat.add_mul, Nat.one_mul]
      omega
  refine key _ 8 64 fun o _ => key _ 64 1 fun n _ => ?_
  cases msgT l o n with
  | none => exact Nat.zero_le _
  | some e => exact Nat.le_refl _
theorem f14 (l : List Str) (m : List En) (a a2 : Option Addr) (c c2 : Nat) (hl : l.length ≤ 9223372036854775807) (hm : m.length ≤ 9223372036854775807) (h : View) (O : Hp) (hr : Rd h O a (l.map sV)) (hr2 : Rd h O a2 (m.flatMap enV)) :
    GSpec Try.prog 14 [.slice a l.length c, .slice a2 m.length c2] h O (Ret O (.bool true)) := by
  have e17 := fun O => f17 h O
  by_cases h30 : l.length ≤ 30 ∧ m.length ≤ 30
  · obtain ⟨h1, h2⟩ := h30
    refine GSpec.enter (fn := Try.f14) Try.func14 rfl (by kernel_rfl) ?_
    repeat' (conv => whnf
             first
             | (((with_reducible refine CallSt.rd (f := 17) (X := .bool true) ?_ ?_); (· exact e17 _)))
             | (with_reducible refine NextSt.mk ?_)
             | (with_reducible refine OnBB.tt ?_)
             | (with_reducible refine OnBB.ff ?_)
             | ((with_reducible apply Cmp.no); · first | omega | (with_reducible assumption)))
    refine LoopSt.fix [4, 5, 27, 28, 29, 30, 31, 32, 33, 34, 35, 36, 37, 38] (fun (i : Nat) => [(5, iN i)]) (fun _ => _) (fun i => i ≤ l.length ∧ ∀ j < i, (l.getD j []).length ≤ 60) (fun i => l.length - i) (0) _ (Wk.refl _ _) (rfl) ?_ ?_ ?_
    · repeat' (first | exact True.intro | refine And.intro ?_ ?_ | rfl | exact congrArg (Value.int _) (by omega) | exact congrArg (fun n => Value.slice _ n _) (by (try dsimp only); omega))
    · exact ⟨Nat.zero_le _, fun j hj => by omega⟩
    · rintro i d ⟨hi, hall⟩
      by_cases hil : i < l.length
      · by_cases h60 : (l.getD i []).length ≤ 60
        · repeat' (conv => whnf
                   first
                   | (with_reducible refine NextSt.mk ?_)
                   | (with_reducible refine OnBB.tt ?_)
                   | (with_reducible refine OnBB.ff ?_)
                   | ((with_reducible apply NW.addN); (· first | with_reducible rfl | exact natL _); (· first | with_reducible rfl | exact natL _); (· omega))
                   | ((with_reducible apply Cmp.yes); · first | omega | (with_reducible assumption) | (with_reducible rfl))
                   | ((with_reducible apply Cmp.no); · first | omega | (with_reducible assumption))
                   | ((with_reducible apply LoadSt.rdS); (· (repeat (first | with_reducible assumption | (with_reducible apply Buf.rd; with_reducible assumption) | (with_reducible apply Rd.appL; with_reducible assumption) | (with_reducible apply Rd.appL; with_reducible apply Buf.rd; with_reducible assumption) | with_reducible apply Rd.cons | with_reducible apply Rd.appR))); · (first | omega | (simp only [List.length_map, List.length_append, List.length_cons, List.length_nil, List.length_take, List.length_drop, List.length_replicate, List.length_set] at *; omega)))
                   | ((with_reducible apply IdxSl.rd1); (· with_reducible assumption); (· rfl); (· first | with_reducible rfl | exact natL _); (· (first | omega | (simp only [List.length_map, List.length_append, List.length_cons, List.length_nil, List.length_take, List.length_drop, List.length_replicate, List.length_set] at *; omega))); · (first | omega | (simp only [List.length_map, List.length_append, List.length_cons, List.length_nil, List.length_take, List.length_drop, List.length_replicate, List.length_set] at *; omega))))
          refine RoundFix.mk (i + 1) ?_ ?_ _ rfl (Wk.drop (by (try dsimp only); (try simp only [List.cons_append, List.nil_append]); (repeat (first | with_reducible exact List.Sublist.refl _ | with_reducible exact List.nil_sublist _ | with_reducible apply List.Sublist.cons_cons | with_reducible apply sub_app | apply List.Sublist.cons_cons | apply sub_app | with_reducible apply List.Sublist.cons | with_reducible apply sub_skip)))) ?_
          · omega
          · repeat' (first | exact True.intro | refine And.intro ?_ ?_ | rfl | exact congrArg (Value.int _) (by omega) | exact congrArg (fun n => Value.slice _ n _) (by (try dsimp only); omega))
          · refine ⟨hil, fun j hj => ?_⟩
            by_cases e : j = i
            · rw [e]; exact h60
            · exact hall j (by omega)
        · repeat' (conv => whnf
                   first
                   | (with_reducible refine NextSt.mk ?_)
                   | (with_reducible refine OnBB.tt ?_)
                   | ((with_reducible apply Cmp.yes); · first | omega | (with_reducible assumption) | (with_reducible rfl))
                   | ((with_reducible apply LoadSt.rdS); (· (repeat (first | with_reducible assumption | (with_reducible apply Buf.rd; with_reducible assumption) | (with_reducible apply Rd.appL; with_reducible assumption) | (with_reducible apply Rd.appL; with_reducible apply Buf.rd; with_reducible assumption) | with_reducible apply Rd.cons | with_reducible apply Rd.appR))); · (first | omega | (simp only [List.length_map, List.length_append, List.length_cons, List.length_nil, List.length_take, List.length_drop, List.length_replicate, List.length_set] at *; omega)))
                   | ((with_reducible apply IdxSl.rd1); (· with_reducible assumption); (· rfl); (· first | with_reducible rfl | exact natL _); (· (first | omega | (simp only [List.length_map, List.length_append, List.length_cons, List.length_nil, List.length_take, List.length_drop, List.length_replicate, List.length_set] at *; omega))); · (first | omega | (simp only [List.length_map, List.length_append, List.length_cons, List.length_nil, List.length_take, List.length_drop, List.length_replicate, List.length_set] at *; omega))))
          conv => whnf
          refine FinSt.ret (by (try dsimp only); (try simp only [List.cons_append, List.nil_append]); (repeat (first | with_reducible exact List.Sublist.refl _ | with_reducible exact List.nil_sublist _ | with_reducible apply List.Sublist.cons_cons | with_reducible apply sub_app | apply List.Sublist.cons_cons | apply sub_app | with_reducible apply List.Sublist.cons | with_reducible apply sub_skip))) ?_
          rfl
      · have hie : i = l.length := by omega
        subst hie
        repeat' (conv => whnf
                 first
                 | (with_reducible refine NextSt.mk ?_)
                 | (with_reducible refine OnBB.ff ?_)
                 | ((with_reducible apply Cmp.no); · first | omega | (with_reducible assumption)))
        refine LoopSt.fix [4, 6, 39, 40, 41, 42, 43, 44, 45, 46, 47, 48, 49, 50, 51] (fun (i : Nat) => [(6, iN i)]) (fun _ => _) (fun i => i ≤ m.length ∧ ∀ j < i, (m.getD j default).body.length ≤ 1100) (fun i => m.length - i) (0) _ (Wk.refl _ _) (rfl) ?_ ?_ ?_
        · repeat' (first | exact True.intro | refine And.intro ?_ ?_ | rfl | exact congrArg (Value.int _) (by omega) | exact congrArg (fun n => Value.slice _ n _) (by (try dsimp only); omega))
        · exact ⟨Nat.zero_le _, fun j hj => by omega⟩
        · rintro k d ⟨hk, hall2⟩
          by_cases hkl : k < m.length
          · by_cases h11 : (m.getD k default).body.length ≤ 1100
            · repeat' (conv => whnf
                       first
                       | (((with_reducible apply LoadSt.rdf (g := enV) (s := 3)); (· (repeat (first | with_reducible assumption | (with_reducible apply Buf.rd; with_reducible assumption) | (with_reducible apply Rd.appL; with_reducible assumption) | (with_reducible apply Rd.appL; with_reducible apply Buf.rd; with_reducible assumption) | with_reducible apply Rd.cons | with_reducible apply Rd.appR))); (· exact fun _ => rfl); (· (first | omega | (simp only [List.length_map, List.length_append, List.length_cons, List.length_nil, List.length_take, List.length_drop, List.length_replicate, List.length_set] at *; omega))); (· decide)))
                       | ((with_reducible apply IdxSl.rdg (g := enV) (s := 3)); (· with_reducible assumption); (· exact fun _ => rfl); (· decide); (· rfl); (· first | with_reducible rfl | exact natL _); (· (first | omega | (simp only [List.length_map, List.length_append, List.length_cons, List.length_nil, List.length_take, List.length_drop, List.length_replicate, List.length_set] at *; omega))); · (first | omega | (simp only [List.length_map, List.length_append, List.length_cons, List.length_nil, List.length_take, List.length_drop, List.length_replicate, List.length_set] at *; omega)))
                       | (with_reducible refine NextSt.mk ?_)
                       | (with_reducible refine OnBB.tt ?_)
                       | (with_reducible refine OnBB.ff ?_)
                       | ((with_reducible apply NW.addN); (· first | with_reducible rfl | exact natL _); (· first | with_reducible rfl | exact natL _); (· omega))
                       | ((with_reducible apply Cmp.yes); · first | omega | (with_reducible assumption) | (with_reducible rfl))
                       | ((with_reducible apply Cmp.no); · first | omega | (with_reducible assumption)))
              refine RoundFix.mk (k + 1) ?_ ?_ _ rfl (Wk.drop (by (try dsimp only); (try simp only [List.cons_append, List.nil_append]); (repeat (first | with_reducible exact List.Sublist.refl _ | with_reducible exact List.nil_sublist _ | with_reducible apply List.Sublist.cons_cons | with_reducible apply sub_app | apply List.Sublist.cons_cons | apply sub_app | with_reducible apply List.Sublist.cons | with_reducible apply sub_skip)))) ?_
              · omega
              · repeat' (first | exact True.intro | refine And.intro ?_ ?_ | rfl | exact congrArg (Value.int _) (by omega) | exact congrArg (fun n => Value.slice _ n _) (by (try dsimp only); omega))
              · refine ⟨hkl, fun j hj => ?_⟩
                by_cases e : j = k
                · rw [e]; exact h11
                · exact hall2 j (by omega)
            · repeat' (conv => whnf
                       first
                       | (((with_reducible apply LoadSt.rdf (g := enV) (s := 3)); (· (repeat (first | with_reducible assumption | (with_reducible apply Buf.rd; with_reducible assumption) | (with_reducible apply Rd.appL; with_reducible assumption) | (with_reducible apply Rd.appL; with_reducible apply Buf.rd; with_reducible assumption) | with_reducible apply Rd.cons | with_reducible apply Rd.appR))); (· exact fun _ => rfl); (· (first | omega | (simp only [List.length_map, List.length_append, List.length_cons, List.length_nil, List.length_take, List.length_drop, List.length_replicate, List.length_set] at *; omega))); (· decide)))
                       | ((with_reducible apply IdxSl.rdg (g := enV) (s := 3)); (· with_reducible assumption); (· exact fun _ => rfl); (· decide); (· rfl); (· first | with_reducible rfl | exact natL _); (· (first | omega | (simp only [List.length_map, List.length_append, List.length_cons, List.length_nil, List.length_take, List.length_drop, List.length_replicate, List.length_set] at *; omega))); · (first | omega | (simp only [List.length_map, List.length_append, List.length_cons, List.length_nil, List.length_take, List.length_drop, List.length_replicate, List.length_set] at *; omega)))
                       | (with_reducible refine NextSt.mk ?_)
                       | (with_reducible refine OnBB.tt ?_)
                       | ((with_reducible apply Cmp.yes); · first | omega | (with_reducible assumption) | (with_reducible rfl)))
              conv => whnf
              refine FinSt.ret (by (try dsimp only); (try simp only [List.cons_append, List.nil_append]); (repeat (first | with_reducible exact List.Sublist.refl _ | with_reducible exact List.nil_sublist _ | with_reducible apply List.Sublist.cons_cons | with_reducible apply sub_app | apply List.Sublist.cons_cons | apply sub_app | with_reducible apply List.Sublist.cons | with_reducible apply sub_skip))) ?_
              rfl
          · have hke : k = m.length := by omega
            subst hke
            have e72 := fun h O hr => f72 l a c (by omega) (fun i hi => by have := hall i hi; omega) h O hr
            have e73 := fun h O hr => f73 l a c (by omega) (fun i hi => by have := hall i hi; omega) h O hr
            have e74 := fun h O hr => f74s m a2 c2 (by omega) (fun i hi => by have := hall2 i hi; omega) h O hr
            have e75 := fun h O hr => f75s m a2 c2 (by omega) (fun i hi => by have := hall2 i hi; omega) h O hr
            have hgl := gatR_len (hF l)
            have hgw : ∀ e ∈ gatR (hF l), enW e := fun e he => (gatR_w (hF_ok l) e he).w
            have e60 := fun a1 a2 c1 c2 h O h1 h2 => f60 (gatR (hF l)) (gatR (hF l)) a1 a2 c1 c2 (by omega) (by omega) hgw hgw h O h1 h2
            rw [decide_eq_true rfl] at e60
            unfold HeR at e72 e73
            generalize gatR (hF l) = G at *
            generalize nB l = N at *
            generalize sumE m = S at *
            obtain ⟨S1, S2⟩ := S
            unfold sumR at e74 e75
            simp only at e74 e75
            repeat' (conv => whnf
                     first
                     | (((with_reducible refine CallSt.new (f := 72) (R := (fun v H => ∃ x, v = .tuple ⟨[x, iN N, .int .i64 0]⟩ ∧ LsR enV G x H)) ?_ ?_); (· exact e72 _ _ (by (repeat (first | with_reducible assumption | (with_reducible apply Buf.rd; with_reducible assumption) | (with_reducible apply Rd.appL; with_reducible assumption) | (with_reducible apply Rd.appL; with_reducible apply Buf.rd; with_reducible assumption) | with_reducible apply Rd.cons | with_reducible apply Rd.appR)))); rintro _ H1 ⟨_, rfl, b1, d1, rfl, hb1, hd1⟩))
                     | (((with_reducible refine CallSt.new (f := 73) (R := (fun v H => ∃ x, v = .tuple ⟨[x, iN N, .int .i64 0]⟩ ∧ LsR enV G x H)) ?_ ?_); (· exact e73 _ _ (by (repeat (first | with_reducible assumption | (with_reducible apply Buf.rd; with_reducible assumption) | (with_reducible apply Rd.appL; with_reducible assumption) | (with_reducible apply Rd.appL; with_reducible apply Buf.rd; with_reducible assumption) | with_reducible apply Rd.cons | with_reducible apply Rd.appR)))); rintro _ H2 ⟨_, rfl, b2, d2, rfl, hb2, hd2⟩))
                     | (((with_reducible refine CallSt.rd (f := 74) (X := .tuple ⟨[uN S1, .int .i64 S2]⟩) ?_ ?_); (· exact e74 _ _ (by (repeat (first | with_reducible assumption | (with_reducible apply Buf.rd; with_reducible assumption) | (with_reducible apply Rd.appL; with_reducible assumption) | (with_reducible apply Rd.appL; with_reducible apply Buf.rd; with_reducible assumption) | with_reducible apply Rd.cons | with_reducible apply Rd.appR))))))
                     | (((with_reducible refine CallSt.rd (f := 75) (X := .tuple ⟨[uN S1, .int .i64 S2]⟩) ?_ ?_); (· exact e75 _ _ (by (repeat (first | with_reducible assumption | (with_reducible apply Buf.rd; with_reducible assumption) | (with_reducible apply Rd.appL; with_reducible assumption) | (with_reducible apply Rd.appL; with_reducible apply Buf.rd; with_reducible assumption) | with_reducible apply Rd.cons | with_reducible apply Rd.appR))))))
                     | (((with_reducible refine CallSt.rd (f := 60) (X := .bool true) ?_ ?_); (· exact e60 _ _ _ _ _ _ (Rd.appR (Rd.appL hb1.ofH)) (Rd.appL hb2.ofH))))
                     | (with_reducible refine NextSt.mk ?_)
                     | (with_reducible refine OnBB.tt ?_)
                     | (with_reducible refine OnBB.ff ?_)
                     | ((with_reducible apply Cmp.yes); · first | omega | (with_reducible assumption) | (with_reducible rfl))
                     | ((with_reducible apply Cmp.no); · first | omega | (with_reducible assumption)))
            conv => whnf
            refine FinSt.ret (by (try dsimp only); (try simp only [List.cons_append, List.nil_append]); (repeat (first | with_reducible exact List.Sublist.refl _ | with_reducible exact List.nil_sublist _ | with_reducible apply List.Sublist.cons_cons | with_reducible apply sub_app | apply List.Sublist.cons_cons | apply sub_app | with_reducible apply List.Sublist.cons | with_reducible apply sub_skip))) ?_
            rfl
  · refine GSpec.enter (fn := Try.f14) Try.func14 rfl (by kernel_rfl) ?_
    repeat' (conv => whnf
             first
             | (((with_reducible refine CallSt.rd (f := 17) (X := .bool true) ?_ ?_); (· exact e17 _)))
             | (with_reducible refine NextSt.mk ?_)
             | (with_reducible refine OnBB.tt ?_)
             | (with_reducible refine OnBB.ff ?_)
             | ((with_reducible apply Cmp.yes); · first | omega | (with_reducible assumption) | (with_reducible rfl))
             | ((with_reducible refine Cmp.mk ?_ ?_) <;> intro _hc))
    all_goals (conv => whnf)
    all_goals refine FinSt.ret (by (try dsimp only); (try simp only [List.cons_append, List.nil_append]); (repeat (first | with_reducible exact List.Sublist.refl _ | with_reducible exact List.nil_sublist _ | with_reducible apply List.Sublist.cons_cons | with_reducible apply sub_app | apply List.Sublist.cons_cons | apply sub_app | with_reducible apply List.Sublist.cons | with_reducible apply sub_skip))) ?_
    all_goals rfl
end Go.Proofs.Ytlbmlimaobkhpaa
