/- The laws' own functions. -/
import Derived.Test.YtlbmlimaobkhpaaRf
set_option linter.unusedVariables false
set_option linter.unusedSimpArgs false
set_option linter.unusedSectionVars false
/- The examples of the chapter hold. -/
namespace Go.Proofs.Ytlbmlimaobkhpaa
open Go Go.Gv
set_option maxRecDepth 100000
set_option maxHeartbeats 4000000
set_option linter.unusedSimpArgs false
set_option linter.unusedVariables false

/-! ### equality of frames -/
def frW (f : Fr) : Prop := i64 f.office ∧ i64 f.no ∧ i64 f.part ∧ i64 f.parts ∧ f.body.length < 1000000
theorem u23 : Try.prog.underlying 23 = some (.struct #[⟨ "Office", 3, 0, false, "", "", 0⟩, ⟨ "No", 3, 1, false, "", "", 8⟩, ⟨ "Part", 3, 2, false, "", "", 16⟩, ⟨ "Parts", 3, 3, false, "", "", 24⟩, ⟨ "Body", 9, 4, false, "", "", 32⟩]) := by kernel_rfl
theorem kl23 {f : Fr} (h : frW f) : Try.prog.keyLits 2 23 (frV f) = some [.int .i64 f.office, .int .i64 f.no, .int .i64 f.part, .int .i64 f.parts, .string f.body] := by
  have hu3 : Try.prog.underlying 3 = some (.int .i64) := by kernel_rfl
  have hu9 : Try.prog.underlying 9 = some .string := by kernel_rfl
  have hc : Try.prog.cellsOf 23 = 5 := by kernel_rfl
  have hc3 : Try.prog.cellsOf 3 = 1 := by kernel_rfl
  have hc9 : Try.prog.cellsOf 9 = 1 := by kernel_rfl
  obtain ⟨h1, h2, h3, h4, h5⟩ := h
  have h6 : (ByteArray.mk ⟨f.body⟩).size ≤ maxLen := by
    show f.body.length ≤ maxLen
    unfold maxLen; omega
  simp [Program.keyLits, u23, hu3, hu9, hc, hc3, hc9, frV, sV, wf_int h1, wf_int h2, wf_int h3, wf_int h4, h6]
instance : DecidableEq Fr := fun a b => decidable_of_iff (a.office = b.office ∧ a.no = b.no ∧ a.part = b.part ∧ a.parts = b.parts ∧ a.body = b.body) (by
  obtain ⟨x1, x2, x3, x4, x5⟩ := a
  obtain ⟨y1, y2, y3, y4, y5⟩ := b
  simp)
theorem eq23 {e f : Fr} (he : frW e) (hf : frW f) {K : Bool → Prop} (hK : K (decide (e = f))) : EqSt Try.prog 23 (.agg ⟨frV e⟩) (.agg ⟨frV f⟩) K := by
  have hc : Try.prog.cellsOf 23 = 5 := by kernel_rfl
  refine EqSt.key 2 2 _ _ (by kernel_rfl) (by decide) (by kernel_rfl) ?_ ?_ (kl23 he) (kl23 hf) (e = f) ?_ hK
  · simp [Value.formed, u23, hc, frV]
  · simp [Value.formed, u23, hc, frV]
  · obtain ⟨a, b, c, d, e⟩ := e
    obtain ⟨a', b', c', d', e'⟩ := f
    simp
theorem okS.make {B : Nat} {d : Dk} (h : d.okB B) {n : Nat} (hn : n ≤ 8) (h0 : (keepV d 0 (payB n)).2 = 0) : okS (B + 20) ((keepV d 0 (payB n)).1, ⟨List.replicate n [], 1, d.falls⟩) := by
  have h1 := keepV_okB h 0 (payB n)
  have h2 := keepV_full h0
  have h3 := keepV_len d 0 (payB n)
  have h4 : secN (payB n).length = 1 := by rw [payB_len]; rfl
  refine ⟨h1.mono (by rw [h4]; omega), wfL.nil hn, ?_⟩
  show 1 ≤ (keepV d 0 (payB n)).1.safe.length
  rw [h3]; omega
theorem okS.add {B : Nat} {S : DB} (h : okS B S) (e : En) : okS (B + 20) (addV S e).1 := by
  unfold addV
  split
  · exact h.mono (by omega)
  · split
    · exact h.mono (by omega)
    · rename_i h1
      have h1 := Classical.not_not.1 h1
      split
      · exact h.mono (by omega)
      · split
        · exact h.mono (by omega)
        · rename_i h2
          exact h.put ⟨h1.1, h1.2, .inl (Classical.not_not.1 h2)⟩
/-! ### the examples -/
def fr1 : Fr := ⟨1, 2, 0, 1, [115, 110, 111, 119]⟩
theorem f87 (h : View) (O : Hp) : GSpec Try.prog 87 [] h O (Ret O (.agg ⟨frV fr1⟩)) := by
  refine GSpec.enter (fn := Try.f87) Try.func87 rfl (by kernel_rfl) ?_
  repeat' (conv => whnf
           first
           | (with_reducible refine NextSt.mk ?_)
           | ((with_reducible apply LoadSt.boxAgg); · (repeat (exact List.Mem.head _)))
           | ((with_reducible refine AllocSt.mk ?_); intro _b _hb _hbO)
           | ((with_reducible apply StoreSt.box); (· (repeat (exact Upd.hd))); (· rfl); (· rfl); (· rfl)))
  conv => whnf
  refine FinSt.ret (by (try dsimp only); (try simp only [List.cons_append, List.nil_append]); (repeat (first | with_reducible exact List.Sublist.refl _ | with_reducible apply List.Sublist.cons))) ?_
  rfl
theorem fr1W : frW fr1 := ⟨⟨by decide, by decide⟩, ⟨by decide, by decide⟩, ⟨by decide, by decide⟩, ⟨by decide, by decide⟩, by decide⟩
theorem x25 : timesV 2 128 = (29, 0) := by decide +kernel
theorem x26 : invV 2 = (142, 0) := by decide +kernel
theorem x29 : checksV [1] = ([63, 1, 218, 32, 227, 38], 0) := by decide +kernel
theorem x18 : encV fr1 = (sent fr1, 0) := by kernel_rfl
theorem x18l : (sent fr1).length = 14 := by decide +kernel
def es : En := ⟨0, 0, [115, 110, 111, 119]⟩
theorem x76 : (splitV es).1.length = 1 ∧ (splitV es).2 = 0 := by decide +kernel
theorem x20 : decV ([63, 63] ++ (sent fr1).drop 2) = (fr1, 2, 0) := by kernel_rfl
def ea : En := ⟨0, 0, [97]⟩
def eb : En := ⟨0, 0, [98]⟩
def dk1 : Dk := (keepV (Dk.mk0 9) 0 (payB 1)).1
def S1 : DB := (dk1, ⟨[[]], 1, 0⟩)
def S2 : DB := (addV S1 eb).1
theorem xk : (keepV (Dk.mk0 9) 0 (payB 1)).2 = 0 := by decide +kernel
theorem x69 : makeV (Dk.mk0 9) 1 = (dk1, some ⟨[[]], 1, 0⟩, 0) := by
  unfold makeV
  rw [if_neg (by decide), if_neg (by decide), if_pos (by exact xk)]
  rfl
theorem x61 : (addV S1 eb).2 = 0 := by decide +kernel
theorem x55a : (takeV S2 [ea]).n = 1 := by decide +kernel
theorem x55b : (takeV S2 [ea]).err = 0 := by decide +kernel
theorem x55c : (takeV S2 [ea]).S.2.logs = [[ea]] := by decide +kernel
theorem ok1 : okS 20 S1 := okS.make (Dk.okB.mk0 (by decide)) (n := 1) (by decide) xk
theorem ok2 : okS 40 S2 := ok1.add eb
theorem eaW : ∀ e ∈ [ea], enW e := fun e he => by
  rw [List.mem_singleton.1 he]
  exact ⟨⟨by decide, by decide⟩, ⟨by decide, by decide⟩, by decide⟩
theorem f17 (h : View) (O : Hp) : GSpec Try.prog 17 [] h O (Ret O (.bool true)) := by
  have hl18 := x18l
  have hl76 := x76.1
  refine GSpec.enter (fn := Try.f17) Try.func17 rfl (by kernel_rfl) ?_
  repeat' (conv => whnf
           first
           | ((with_reducible refine CallSt.rd (f := 25) (X := i2 (29, 0)) ?_ ?_); (· rw [← x25]; exact f25 2 128 _ _))
           | ((with_reducible refine CallSt.rd (f := 26) (X := i2 (142, 0)) ?_ ?_); (· rw [← x26]; exact f26 2 _ _))
           | ((with_reducible refine CallSt.rd (f := 29) (X := strE ([63, 1, 218, 32, 227, 38], 0)) ?_ ?_); (· rw [← x29]; exact f29 [1] (by decide) _ _))
           | ((with_reducible refine CallSt.rd (f := 87) (X := .agg ⟨frV fr1⟩) ?_ ?_); (· exact f87 _ _))
           | ((with_reducible refine CallG.rd (f := 87) (X := .agg ⟨frV fr1⟩) ?_ ?_); (· exact f87 _ _))
           | ((with_reducible refine CallSt.rd (f := 18) (X := strE (sent fr1, 0)) ?_ ?_); (· rw [← x18]; exact f18 fr1 (by decide) _ _))
           | (((with_reducible apply Cmp.no); · decide))
           | (((with_reducible apply Cmp.yes); · (show (([ea].length : Nat) : Int) = 1; decide)))
           | ((with_reducible refine CallSt.rd (f := 20) (X := decR (fr1, 2, 0)) ?_ ?_); (· rw [← x20]; exact f20 _ (by simp [hl18]) _ _))
           | ((refine eq23 (f := fr1) fr1W fr1W ?_); rw [decide_eq_true rfl])
           | (((apply CallSt.new (f := 76)); (· exact f76 es (by decide) _ _); rintro _ _ ⟨FB, rfl, rfl, hFB⟩; rw [x76.2]))
           | (((apply CallSt.new (f := 34)); (· exact f34 9 _ _); rintro _ _ hM; unfold MadeD at hM; rw [if_pos (by decide)] at hM; obtain ⟨r0, rfl, rfl, hr0⟩ := hM))
           | (((with_reducible apply CallSt.loc (f := 69) (H := dHp r0 (Dk.mk0 (Int.toNat 9))) (R := GotB r0 (dk1, some ⟨[[]], 1, 0⟩, 0))); (· (repeat (with_reducible exact Loc.hd))); (· rw [← x69]; exact f69 r0 (Dk.mk0 9) 0 1 (Dk.okB.mk0 (by decide)) (by decide) hr0 _); rintro _ _ ⟨r1, b1, _, hk1, rfl, rfl⟩))
           | (((with_reducible apply CallSt.loc (f := 61) (H := bH r1 dk1 b1 ⟨[[]], 1, 0⟩) (R := BR r1 b1 S2 (.int .i64 0))); (· (repeat (with_reducible exact Loc.hd))); (· rw [← x61]; exact f61 r1 b1 S1 20 eb ⟨⟨by decide, by decide⟩, ⟨by decide, by decide⟩, by decide⟩ ok1 (by decide) hk1 _); rintro _ _ ⟨r2, b2, _, hb2, hk2, rfl, rfl⟩; (rw [show pP b1.p = pP b2.p from by rw [hb2]])))
           | (((with_reducible apply CallSt.loc (f := 55) (H := [(_b, .cells ⟨enV ea⟩ 70 (0, 0))] ++ bH r2 S2.1 b2 S2.2) (R := BRG r2 b2 (takeV S2 [ea]).S (.tuple ⟨[iN 1, .int .i64 0]⟩) [(_b, .cells ⟨enV ea⟩ 70 (0, 0))])); (· exact ⟨⟨[], _, rfl, fun _ => rfl⟩⟩); (· rw [← x55a, ← x55b]; exact f55 r2 b2 S2 40 [ea] (some ⟨_b, 0, none⟩) 1 _ eaW (by decide) ok2 (by decide) hk2 _ (Rd.own0 (List.Mem.head _))); rintro _ _ ⟨r3, b3, _, hb3, hk3, rfl, rfl⟩; rw [List.nil_append, List.append_assoc]; (rw [show pP b2.p = pP b3.p from by rw [hb3]])))
           | (((apply CallSt.new (f := 57) (R := RowR [ea])); (· (have q := f57 r3 b3 (takeV S2 [ea]).S (takeV_ok ok2 [ea]).wf hk3 h); (rw [x55c] at q); (apply GSpec.locNew (H := bH r3 (takeV S2 [ea]).S.1 b3 (takeV S2 [ea]).S.2)); (· (repeat (first | with_reducible exact Loc.hd | with_reducible apply Loc.skip))); (· exact q)); rintro _ _ ⟨AB, rfl, rfl, hAB⟩))
           | ((refine eq70 (e := ea) (f := ea) (eaW ea (by simp)) (eaW ea (by simp)) ?_); rw [decide_eq_true rfl])
           | ((with_reducible refine DrawSt.walk [0, 1, 2, 3, 4, 5, 6, 7, 8, 9, 10, 11, 12, 13, 14, 15, 16, 17, 18, 19] mixed ?_ ?_); · decide +kernel)
           | ((with_reducible apply LoadSt.rdg (g := enV) (s := 3)); (· rfl); (· (repeat ((with_reducible apply Rd.appL; with_reducible apply Buf.rd; with_reducible assumption)))); (· exact fun _ => rfl); (· decide); · ((simp only [List.length_map, List.length_append, List.length_cons, List.length_nil, List.length_take, List.length_drop, List.length_replicate, List.length_set] at *; omega)))
           | ((with_reducible apply IdxSl.bufm (s := 3)); (· with_reducible assumption); (· rfl); (· rfl); (· exact natL _); · ((simp only [List.length_map, List.length_append, List.length_cons, List.length_nil, List.length_take, List.length_drop, List.length_replicate, List.length_set] at *; omega)))
           | (with_reducible refine NextSt.mk ?_)
           | (with_reducible refine OnBB.tt ?_)
           | (with_reducible refine OnBB.ff ?_)
           | ((with_reducible apply Cmp.yes); · omega)
           | ((with_reducible apply LoadSt.boxAgg); · (repeat (first | exact List.Mem.head _ | with_reducible apply List.mem_append_right)))
           | ((with_reducible refine AllocSt.mk ?_); intro _b _hb _hbO)
           | ((with_reducible apply StoreSt.box); (· (repeat (exact Upd.hd))); (· rfl); (· rfl); (· rfl))
           | ((with_reducible apply StrAdd.mk); · ((simp only [List.length_map, List.length_append, List.length_cons, List.length_nil, List.length_take, List.length_drop, List.length_replicate, List.length_set] at *; omega)))
           | ((with_reducible apply StrSl.lo); (· exact natL _); (· ((simp only [List.length_map, List.length_append, List.length_cons, List.length_nil, List.length_take, List.length_drop, List.length_replicate, List.length_set] at *; omega)))))
  conv => whnf
  refine FinSt.ret (by (try dsimp only); (try simp only [List.cons_append, List.nil_append]); (repeat (first | with_reducible exact List.Sublist.refl _ | with_reducible apply List.Sublist.cons | with_reducible apply sub_skip))) ?_
  rfl
end Go.Proofs.Ytlbmlimaobkhpaa
/- The first laws of the code and of frames: the walks. -/
namespace Go.Proofs.Ytlbmlimaobkhpaa
open Go Go.Gv
set_option maxRecDepth 100000
set_option maxHeartbeats 4000000
set_option linter.unusedSimpArgs false
set_option linter.unusedVariables false

end Go.Proofs.Ytlbmlimaobkhpaa
/- The law of the field: the walk. -/
namespace Go.Proofs.Ytlbmlimaobkhpaa
open Go Go.Gv
set_option maxRecDepth 100000
set_option maxHeartbeats 4000000
set_option linter.unusedSimpArgs false
set_option linter.unusedVariables false

attribute [local irreducible] mul inv
abbrev okc (p : Nat) : Nat × Obj := (p, .cells ⟨[.bool true]⟩ 4 (0, 0))
theorem timesN {a b : Nat} (ha : a < 256) (hb : b < 256) : timesV a b = (((mul a b : Nat) : Int), 0) := if_pos ⟨by omega, by omega, by omega, by omega⟩
theorem f24 (a b p : Nat) (ha : a < 256) (hb : b < 256) (h : View) : GSpec Try.prog 24 [iN a, iN b, pP p] h [okc p] (Ret [okc p] (iN (mul a b))) := by
  have hm := mul_lt b ha
  have e25 := fun h O => f25 a b h O
  rw [timesN ha hb] at e25
  refine GSpec.enter (fn := Try.f24) Try.func24 rfl (by kernel_rfl) ?_
  repeat' (conv => whnf
           first
           | ((with_reducible refine CallSt.rd (f := 25) (X := i2 (((mul a b : Nat) : Int), 0)) ?_ ?_); (· exact e25 _ _))
           | (with_reducible refine NextSt.mk ?_)
           | (with_reducible refine OnBB.tt ?_)
           | ((with_reducible apply Cmp.yes); · first | omega | (with_reducible assumption) | (with_reducible rfl))
           | ((with_reducible apply LoadSt.box); · (repeat (first | exact List.Mem.head _ | with_reducible apply List.mem_append_right | with_reducible apply List.mem_cons_of_mem)))
           | ((with_reducible apply StoreSt.box); (· (repeat (first | exact Upd.hd | apply Upd.tl | apply Upd.app))); (· rfl); (· rfl); (· rfl)))
  conv => whnf
  refine FinSt.ret (by (try dsimp only); (try simp only [List.cons_append, List.nil_append]); (repeat (first | with_reducible exact List.Sublist.refl _ | with_reducible exact List.nil_sublist _ | with_reducible apply List.Sublist.cons_cons | with_reducible apply sub_app | apply List.Sublist.cons_cons | apply sub_app | with_reducible apply List.Sublist.cons | with_reducible apply sub_skip))) ?_
  rfl
end Go.Proofs.Ytlbmlimaobkhpaa
