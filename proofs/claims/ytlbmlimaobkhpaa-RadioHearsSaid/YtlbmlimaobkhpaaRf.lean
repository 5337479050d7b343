/- Functions of the program: books, taken in. -/
import Derived.Test.YtlbmlimaobkhpaaRe
import Derived.Test.YtlbmlimaobkhpaaGc
set_option linter.unusedVariables false
set_option linter.unusedSimpArgs false
set_option linter.unusedSectionVars false
/- Books on disks: what adding and taking do. No program in sight. -/
namespace Go.Proofs.Ytlbmlimaobkhpaa
set_option linter.unusedSimpArgs false
set_option linter.unusedVariables false
structure Bk where
  logs : List (List En)
  at_ : Nat
  falls : Nat
/-- A disk and a book on it. -/
abbrev DB := Dk × Bk
theorem secN_pay {e : En} (h : enOk e) : secN (payE e).length ≤ 17 := by
  have := h.2.2.2.2
  rw [payE_len]; unfold secN; omega
def putV (S : DB) (e : En) : DB × Int :=
  if (keepV S.1 S.2.at_ (payE e)).2 = 0 then (((keepV S.1 S.2.at_ (payE e)).1, ⟨chgd S.2.logs e, S.2.at_ + secN (payE e).length, S.2.falls⟩), 0)
  else (((keepV S.1 S.2.at_ (payE e)).1, S.2), (keepV S.1 S.2.at_ (payE e)).2)
structure okS (B : Nat) (S : DB) : Prop where
  d : S.1.okB B
  wf : wfL S.2.logs
  at_ : S.2.at_ ≤ S.1.safe.length
theorem okS.mono {B C : Nat} {S : DB} (h : okS B S) (hB : B ≤ C) : okS C S := ⟨h.d.mono hB, h.wf, h.at_⟩
theorem keepV_full {d : Dk} {a : Nat} {p : Str} (h : (keepV d a p).2 = 0) : a + secN p.length ≤ d.safe.length := by
  unfold keepV at h
  split at h
  · cases h
  · omega
theorem putV_len (S : DB) (e : En) : (putV S e).1.2.logs.length = S.2.logs.length := by
  unfold putV
  split
  · exact chgd_len _ _
  · rfl
theorem okS.put {B : Nat} {S : DB} (h : okS B S) {e : En} (hc : chg S.2.logs e) : okS (B + 20) (putV S e).1 := by
  have h1 := keepV_okB h.d S.2.at_ (payE e)
  have h2 := keepV_len S.1 S.2.at_ (payE e)
  have h3 := secN_pay hc.1
  have h4 := h.at_
  unfold putV
  split
  · rename_i h0
    have h5 := keepV_full h0
    exact ⟨h1.mono (by omega), h.wf.chgd hc, by show _ ≤ (keepV S.1 S.2.at_ (payE e)).1.safe.length; rw [h2]; exact h5⟩
  · exact ⟨h1.mono (by omega), h.wf, by show _ ≤ (keepV S.1 S.2.at_ (payE e)).1.safe.length; rw [h2]; exact h4⟩
/-- Has the power gone off since? -/
def downV (S : DB) : Prop := S.2.falls ≠ S.1.falls
instance (S : DB) : Decidable (downV S) := by unfold downV; infer_instance
def addV (S : DB) (e : En) : DB × Int :=
  if downV S then (S, 93) else if ¬ (enOk e ∧ e.office.toNat < S.2.logs.length) then (S, 92)
  else if e.no.toNat < (S.2.logs.getD e.office.toNat []).length ∧ (S.2.logs.getD e.office.toNat []).getD e.no.toNat default = e then (S, 0)
  else if e.no.toNat ≠ (S.2.logs.getD e.office.toNat []).length then (S, 92)
  else putV S e
/-- The pay of a beginning. -/
def payB (n : Nat) : Str := [1, n].map UInt8.ofNat
def makeV (d : Dk) (n : Int) : Dk × Option Bk × Int :=
  if n < 1 ∨ 8 < n then (d, none, 1) else if d.off then (d, none, 93)
  else if (keepV d 0 (payB n.toNat)).2 = 0 then ((keepV d 0 (payB n.toNat)).1, some ⟨List.replicate n.toNat [], 1, d.falls⟩, 0)
  else ((keepV d 0 (payB n.toNat)).1, none, (keepV d 0 (payB n.toNat)).2)
end Go.Proofs.Ytlbmlimaobkhpaa
/- The program's books: adding, making. -/
namespace Go.Proofs.Ytlbmlimaobkhpaa
open Go Go.Gv
set_option maxRecDepth 100000
set_option maxHeartbeats 4000000
set_option linter.unusedSimpArgs false
set_option linter.unusedVariables false

theorem Loc.mid1 {A G : Hp} {x : Nat × Obj} : Gv.Loc (A ++ x :: G) (A ++ [x]) fun H' => H' ++ G := ⟨[], G, by simp, fun _ => rfl⟩
def KeepRG (p : Nat) (L : Value) (r : Dr) (d : Dk) (at_ falls : Nat) (pay : Str) (G : Hp) (v : Value) (O' : Hp) : Prop :=
  ∃ r', r'.p = r.p ∧ dOk r' (keepV d at_ pay).1 ∧ O' = dHp r' (keepV d at_ pay).1 ++ (bkc p L r.p (if (keepV d at_ pay).2 = 0 then at_ + secN pay.length else at_) falls :: G) ∧ v = .int .i64 (keepV d at_ pay).2
theorem f133g (p : Nat) (L : Value) (r : Dr) (d : Dk) (at_ falls B : Nat) (pay : Str) (G : Hp) (hp : pay.length < 1000000) (hat : at_ < 100000000) (hd : d.okB B) (hB : B + secN pay.length + 3 < 1000000000) (hk : dOk r d) (h : View) :
    GSpec Try.prog 133 [pP p, sV pay] h (dHp r d ++ (bkc p L r.p at_ falls :: G)) (fun v _ O' => KeepRG p L r d at_ falls pay G v O') := by
  refine (GSpec.loc Loc.mid1 (f133 p L r d at_ falls B pay hp hat hd hB hk h)).mono ?_
  rintro v h' O' ⟨_, ⟨r', h1, h2, rfl, h4⟩, rfl⟩
  exact ⟨r', h1, h2, by simp, h4⟩
theorem f109g (p : Nat) (L : Value) (r : Dr) (d : Dk) (at_ falls : Nat) (G : Hp) (h : View) : GSpec Try.prog 109 [pP p] h (dHp r d ++ (bkc p L r.p at_ falls :: G)) (Ret (dHp r d ++ (bkc p L r.p at_ falls :: G)) (.bool (decide (falls ≠ d.falls)))) :=
  GSpec.locRet Loc.mid1 (f109 p L r d at_ falls h)

/-- A book and its disk. -/
abbrev bH (r : Dr) (d : Dk) (b : Br) (k : Bk) : Hp := dHp r d ++ (bkc b.p (bkV b) r.p k.at_ k.falls :: lgc b :: lgHp b.ls)
structure bOk (r : Dr) (d : Dk) (b : Br) (k : Bk) : Prop where
  d : dOk r d
  logs : b.logs = k.logs
  ls : lOk b.ls
/-- What a call leaves of a book and its disk. -/
def BR (r : Dr) (b : Br) (S : DB) (X : Value) (v : Value) (O' : Hp) : Prop := ∃ r' b', r'.p = r.p ∧ b'.p = b.p ∧ bOk r' S.1 b' S.2 ∧ O' = bH r' S.1 b' S.2 ∧ v = X
theorem f111 (r : Dr) (b : Br) (S : DB) (B : Nat) (e : En) (hS : okS B S) (hB : B + 20 < 1000000000) (hk : bOk r S.1 b S.2) (hc : chg S.2.logs e) (h : View) :
    GSpec Try.prog 111 [pP b.p, .agg ⟨enV e⟩] h (bH r S.1 b S.2) (fun v _ O' => BR r b (putV S e).1 (.int .i64 (putV S e).2) v O') := by
  have hsec := secN_pay hc.1
  have hpl := payE_len e
  have hbl := hc.1.2.2.2.2
  have hsz := hS.d.size
  have hat := hS.at_
  have hlg := hk.logs
  have hcb : chg b.logs e := by rw [hlg]; exact hc
  have hwb : wfL b.logs := by rw [hlg]; exact hS.wf
  have e133 := fun h => f133g b.p (bkV b) r S.1 S.2.at_ S.2.falls B (payE e) (lgc b :: lgHp b.ls) (by omega) (by omega) hS.d (by omega) hk.d h
  by_cases h0 : (keepV S.1 S.2.at_ (payE e)).2 = 0
  · have e1 : putV S e = (((keepV S.1 S.2.at_ (payE e)).1, ⟨chgd S.2.logs e, S.2.at_ + secN (payE e).length, S.2.falls⟩), 0) := if_pos h0
    refine GSpec.enter (fn := Try.f111) Try.func111 rfl (by kernel_rfl) ?_
    repeat' (conv => whnf
             first
             | ((with_reducible refine CallSt.rd (f := 154) (X := sV (payE e)) ?_ ?_); (· exact f154 e hc.1 _ _))
             | ((with_reducible apply CallSt.loc (f := 133) (H := dHp r S.1 ++ (bkc b.p (bkV b) r.p S.2.at_ S.2.falls :: lgc b :: lgHp b.ls)) (R := KeepRG b.p (bkV b) r S.1 S.2.at_ S.2.falls (payE e) (lgc b :: lgHp b.ls))); (· (repeat (first | with_reducible exact Loc.last | with_reducible apply Loc.tl))); (· exact e133 _); rintro _ _ ⟨r', hr1, hr2, rfl, rfl⟩; rw [if_pos h0]; rw [h0])
             | ((with_reducible apply CallSt.loc (f := 121) (H := bkc b.p (bkV b) r.p (S.2.at_ + secN (payE e).length) S.2.falls :: lgc b :: lgHp b.ls) (R := ChR b r.p (S.2.at_ + secN (payE e).length) S.2.falls e)); (· (repeat (first | with_reducible exact Loc.last | with_reducible apply Loc.tl | with_reducible apply Loc.skip))); (· exact f121 b _ _ _ e hwb hk.ls hcb _); rintro _ _ ⟨b', hb1, hb2, hb3, rfl, rfl⟩)
             | (with_reducible refine NextSt.mk ?_)
             | (with_reducible refine OnBB.ff ?_)
             | ((with_reducible apply Cmp.no); · omega)
             | ((with_reducible apply LoadSt.boxAgg); · (repeat (exact List.Mem.head _)))
             | ((with_reducible refine AllocSt.mk ?_); intro _b _hb _hbO))
    rw [e1]
    refine FinSt.own (R := BR r b _ (.int .i64 0)) (O1 := dHp r' (keepV S.1 S.2.at_ (payE e)).1 ++ (bkc b'.p (bkV b') r.p (S.2.at_ + secN (payE e).length) S.2.falls :: lgc b' :: lgHp b'.ls)) (by (try dsimp only); (try simp only [List.cons_append, List.nil_append]); (repeat (first | with_reducible exact List.Sublist.refl _ | with_reducible apply List.Sublist.cons))) ?_
    exact ⟨r', b', hr1, hb1, ⟨hr2, by rw [hb2, hlg], hb3⟩, by rw [← hr1], rfl⟩
  · have e1 : putV S e = (((keepV S.1 S.2.at_ (payE e)).1, S.2), (keepV S.1 S.2.at_ (payE e)).2) := if_neg h0
    refine GSpec.enter (fn := Try.f111) Try.func111 rfl (by kernel_rfl) ?_
    repeat' (conv => whnf
             first
             | ((with_reducible refine CallSt.rd (f := 154) (X := sV (payE e)) ?_ ?_); (· exact f154 e hc.1 _ _))
             | ((with_reducible apply CallSt.loc (f := 133) (H := dHp r S.1 ++ (bkc b.p (bkV b) r.p S.2.at_ S.2.falls :: lgc b :: lgHp b.ls)) (R := KeepRG b.p (bkV b) r S.1 S.2.at_ S.2.falls (payE e) (lgc b :: lgHp b.ls))); (· (repeat (first | with_reducible exact Loc.last | with_reducible apply Loc.tl))); (· exact e133 _); rintro _ _ ⟨r', hr1, hr2, rfl, rfl⟩; rw [if_neg h0])
             | (with_reducible refine NextSt.mk ?_)
             | (with_reducible refine OnBB.tt ?_)
             | ((with_reducible apply Cmp.yes); · omega)
             | ((with_reducible apply LoadSt.boxAgg); · (repeat (exact List.Mem.head _)))
             | ((with_reducible refine AllocSt.mk ?_); intro _b _hb _hbO))
    rw [e1]
    refine FinSt.own (R := BR r b _ (.int .i64 (keepV S.1 S.2.at_ (payE e)).2)) (O1 := dHp r' (keepV S.1 S.2.at_ (payE e)).1 ++ (bkc b.p (bkV b) r.p S.2.at_ S.2.falls :: lgc b :: lgHp b.ls)) (by (try dsimp only); (try simp only [List.cons_append, List.nil_append]); (repeat (first | with_reducible exact List.Sublist.refl _ | with_reducible apply List.Sublist.cons))) ?_
    exact ⟨r', b, hr1, rfl, ⟨hr2, hk.logs, hk.ls⟩, by rw [← hr1], rfl⟩

/-! ### equality of messages -/
def i64 (n : Int) : Prop := -9223372036854775808 ≤ n ∧ n ≤ 9223372036854775807
theorem wf_int {n : Int} (h : i64 n) : (Lit.int .i64 n).wf = true := by
  obtain ⟨h1, h2⟩ := h
  simp [Lit.wf, IntKind.min, IntKind.max, IntKind.signed, IntKind.bits]; omega
/-- A message that memory holds. -/
def enW (e : En) : Prop := i64 e.office ∧ i64 e.no ∧ e.body.length < 1000000
theorem enOk.w {e : En} (h : enOk e) : enW e := by
  obtain ⟨a1, a2, a3, a4, a5⟩ := h
  exact ⟨⟨by omega, by omega⟩, ⟨by omega, by omega⟩, by omega⟩
theorem kl70 {e : En} (h : enW e) : Try.prog.keyLits 2 70 (enV e) = some [.int .i64 e.office, .int .i64 e.no, .string e.body] := by
  have hu : Try.prog.underlying 70 = some (.struct #[⟨ "Office", 3, 0, false, "", "", 0⟩, ⟨ "No", 3, 1, false, "", "", 8⟩, ⟨ "Body", 9, 2, false, "", "", 16⟩]) := by kernel_rfl
  have hu3 : Try.prog.underlying 3 = some (.int .i64) := by kernel_rfl
  have hu9 : Try.prog.underlying 9 = some .string := by kernel_rfl
  have hc : Try.prog.cellsOf 70 = 3 := by kernel_rfl
  have hc3 : Try.prog.cellsOf 3 = 1 := by kernel_rfl
  have hc9 : Try.prog.cellsOf 9 = 1 := by kernel_rfl
  have h3 : (ByteArray.mk ⟨e.body⟩).size ≤ maxLen := by
    show e.body.length ≤ maxLen
    have := h.2.2
    unfold maxLen; omega
  simp [Program.keyLits, hu, hu3, hu9, hc, hc3, hc9, enV, sV, wf_int h.1, wf_int h.2.1, h3]
theorem eq70 {e f : En} (he : enW e) (hf : enW f) {K : Bool → Prop} (hK : K (decide (e = f))) : EqSt Try.prog 70 (.agg ⟨enV e⟩) (.agg ⟨enV f⟩) K := by
  have hu : Try.prog.underlying 70 = some (.struct #[⟨ "Office", 3, 0, false, "", "", 0⟩, ⟨ "No", 3, 1, false, "", "", 8⟩, ⟨ "Body", 9, 2, false, "", "", 16⟩]) := by kernel_rfl
  have hc : Try.prog.cellsOf 70 = 3 := by kernel_rfl
  refine EqSt.key 2 2 _ _ (by kernel_rfl) (by decide) (by kernel_rfl) ?_ ?_ (kl70 he) (kl70 hf) (e = f) ?_ hK
  · simp [Value.formed, hu, hc, enV]
  · simp [Value.formed, hu, hc, enV]
  · obtain ⟨a, b, c⟩ := e
    obtain ⟨a', b', c'⟩ := f
    simp
end Go.Proofs.Ytlbmlimaobkhpaa
/- The program's books: adding, making. -/
namespace Go.Proofs.Ytlbmlimaobkhpaa
open Go Go.Gv
set_option maxRecDepth 100000
set_option maxHeartbeats 4000000
set_option linter.unusedSimpArgs false
set_option linter.unusedVariables false

theorem BR.same {r : Dr} {b : Br} {S : DB} {X : Value} (hk : bOk r S.1 b S.2) : BR r b S X X (bH r S.1 b S.2) := ⟨r, b, rfl, rfl, hk, rfl, rfl⟩
theorem f61 (r : Dr) (b : Br) (S : DB) (B : Nat) (e : En) (hw : enW e) (hS : okS B S) (hB : B + 20 < 1000000000) (hk : bOk r S.1 b S.2) (h : View) :
    GSpec Try.prog 61 [pP b.p, .agg ⟨enV e⟩] h (bH r S.1 b S.2) (fun v _ O' => BR r b (addV S e).1 (.int .i64 (addV S e).2) v O') := by
  have hlg := hk.logs
  have hlen := logs_len b
  have hwb : wfL b.logs := by rw [hlg]; exact hS.wf
  have hb8 := hwb.len
  have e109 := fun h => f109g b.p (bkV b) r S.1 S.2.at_ S.2.falls (lgc b :: lgHp b.ls) h
  have hbl := hw.2.2
  by_cases h0 : S.2.falls ≠ S.1.falls
  · have e1 : addV S e = (S, 93) := if_pos h0
    rw [decide_eq_true h0] at e109
    rw [e1]
    refine GSpec.enter (fn := Try.f61) Try.func61 rfl (by kernel_rfl) ?_
    repeat' (conv => whnf
             first
             | ((with_reducible refine CallSt.rd (f := 109) (X := .bool true) ?_ ?_); (· exact GSpec.locRet (H := bH r S.1 b S.2) (by (repeat (first | with_reducible exact Loc.last | with_reducible apply Loc.tl))) (e109 _)))
             | (with_reducible refine NextSt.mk ?_)
             | (with_reducible refine OnBB.tt ?_)
             | ((with_reducible refine AllocSt.mk ?_); intro _b _hb _hbO))
    refine FinSt.own (R := BR r b S (.int .i64 93)) (O1 := bH r S.1 b S.2) (by (try dsimp only); (try simp only [List.cons_append, List.nil_append]); (repeat (first | with_reducible exact List.Sublist.refl _ | with_reducible apply List.Sublist.cons))) ?_
    exact BR.same hk
  · rw [decide_eq_false h0] at e109
    by_cases h1 : enOk e
    · have e82 := fun h O => f82 e hbl h O
      rw [show chkE e = 0 from if_pos h1] at e82
      by_cases h2 : e.office.toNat < b.ls.length
      · have hg := logs_get h2
        have hq := hk.ls.get h2
        have hr := lgHp_rd hk.ls h2 (w := h)
        have hlg2 := hwb.log e.office.toNat (by omega)
        rw [hg] at hlg2
        have hen := hwb.en e.office.toNat (by omega) e.no.toNat
        rw [hg] at hen
        have e1 : addV S e = if e.no.toNat < (b.ls.getD e.office.toNat default).2.length ∧ (b.ls.getD e.office.toNat default).2.getD e.no.toNat default = e then (S, 0) else if e.no.toNat ≠ (b.ls.getD e.office.toNat default).2.length then (S, 92) else putV S e := by
          unfold addV
          rw [if_neg (show ¬ downV S from h0), if_neg (fun x => x ⟨h1, by rw [← hlg]; omega⟩), ← hlg, hg]
        have e111 := fun hc h => f111 r b S B e hS hB hk hc h
        rw [e1]
        have hcv : chg S.2.logs e ↔ (e.no.toNat = (b.ls.getD e.office.toNat default).2.length ∨ e.no.toNat < (b.ls.getD e.office.toNat default).2.length ∧ Op.bytesLess e.body ((b.ls.getD e.office.toNat default).2.getD e.no.toNat default).body = true) := by
          unfold chg; rw [← hlg, hg]; exact ⟨fun x => x.2.2, fun x => ⟨h1, by omega, x⟩⟩
        clear e1
        obtain ⟨o, n, bo⟩ := e
        obtain ⟨a1, a2, a3, a4, a5⟩ := id h1
        simp only at a1 a2 a3 a4 a5 h2 hg hq hr hlg2 hen hcv hbl
        obtain ⟨o, rfl⟩ := nat_of a1
        obtain ⟨n, rfl⟩ := nat_of a3
        simp only [Int.toNat_natCast] at h2 hg hq hr hlg2 hen hcv ⊢
        by_cases h3 : n < (b.ls.getD o default).2.length
        · have hen2 := (hen h3).1.w
          by_cases h4 : (b.ls.getD o default).2.getD n default = ⟨o, n, bo⟩
          · rw [if_pos ⟨h3, h4⟩]
            refine GSpec.enter (fn := Try.f61) Try.func61 rfl (by kernel_rfl) ?_
            repeat' (conv => whnf
                     first
                     | ((with_reducible refine CallSt.rd (f := 109) (X := .bool false) ?_ ?_); (· exact GSpec.locRet (H := bH r S.1 b S.2) (by (repeat (first | with_reducible exact Loc.last | with_reducible apply Loc.tl))) (e109 _)))
                     | ((with_reducible refine CallG.rd (f := 82) (X := .int .i64 0) ?_ ?_); (· exact e82 _ _))
                     | (((with_reducible apply LoadSt.ownd (g := slV)); (· (repeat (first | exact List.Mem.head _ | with_reducible apply List.mem_append_right | with_reducible apply List.mem_cons_of_mem))); (· (exact Nat.zero_add _)); (· (omega))))
                     | ((refine eq70 (f := ⟨o, n, bo⟩) hen2 hw ?_); rw [decide_eq_true h4])
                     | ((with_reducible refine DrawSt.walk [0, 1, 2, 3, 4, 5, 6, 7, 8, 9, 10, 11, 12, 13] mixed ?_ ?_); · decide +kernel)
                     | ((with_reducible refine DrawSt.walk [0, 1, 2, 3, 4, 5, 6, 7, 8] mixed ?_ ?_); · decide +kernel)
                     | ((with_reducible refine DrawSt.walk [0, 1, 2, 3, 4, 5, 6, 7, 8, 9, 10, 11, 12, 13, 14] mixed ?_ ?_); · decide +kernel)
                     | ((with_reducible apply CallG.decY (f := 93)); (· (apply GSpec.cast (sp := f93 _ _ _ _); (· (repeat' (with_reducible rfl))); all_goals (fail))); · (dsimp only; omega))
                     | ((with_reducible apply LoadSt.rdg (g := enV) (s := 3)); (· rfl); (· (repeat (first | with_reducible assumption | with_reducible apply Rd.cons | with_reducible apply Rd.appR))); (· exact fun _ => rfl); (· decide); · (omega))
                     | ((with_reducible apply IdxSl.bufm (s := 3)); (· with_reducible assumption); (· rfl); (· rfl); (· with_reducible rfl); · (omega))
                     | (with_reducible refine NextSt.mk ?_)
                     | (with_reducible refine OnBB.tt ?_)
                     | (with_reducible refine OnBB.ff ?_)
                     | ((with_reducible apply Cmp.no); · omega)
                     | ((with_reducible apply LoadSt.box); · (repeat (first | exact List.Mem.head _ | with_reducible apply List.mem_append_right | with_reducible apply List.mem_cons_of_mem)))
                     | ((with_reducible apply LoadSt.boxAgg); · (repeat (exact List.Mem.head _)))
                     | ((with_reducible refine AllocSt.mk ?_); intro _b _hb _hbO)
                     | ((with_reducible apply IdxSl.own1); (· rfl); (· with_reducible rfl); · (omega))
                     | ((with_reducible apply Cmp.yes); · (dsimp only; omega)))
            refine FinSt.own (R := BR r b S (.int .i64 0)) (O1 := bH r S.1 b S.2) (by (try dsimp only); (try simp only [List.cons_append, List.nil_append]); (repeat (first | with_reducible exact List.Sublist.refl _ | with_reducible apply List.Sublist.cons))) ?_
            exact BR.same hk
          · rw [if_neg (fun x => h4 x.2), if_pos (by omega)]
            refine GSpec.enter (fn := Try.f61) Try.func61 rfl (by kernel_rfl) ?_
            repeat' (conv => whnf
                     first
                     | ((with_reducible refine CallSt.rd (f := 109) (X := .bool false) ?_ ?_); (· exact GSpec.locRet (H := bH r S.1 b S.2) (by (repeat (first | with_reducible exact Loc.last | with_reducible apply Loc.tl))) (e109 _)))
                     | ((with_reducible refine CallG.rd (f := 82) (X := .int .i64 0) ?_ ?_); (· exact e82 _ _))
                     | (((with_reducible apply LoadSt.ownd (g := slV)); (· (repeat (first | exact List.Mem.head _ | with_reducible apply List.mem_append_right | with_reducible apply List.mem_cons_of_mem))); (· (exact Nat.zero_add _)); (· (omega))))
                     | ((refine eq70 (f := ⟨o, n, bo⟩) hen2 hw ?_); rw [decide_eq_false h4])
                     | ((with_reducible refine DrawSt.walk [0, 1, 2, 3, 4, 5, 6, 7, 8, 9, 10, 11, 12, 13] mixed ?_ ?_); · decide +kernel)
                     | ((with_reducible refine DrawSt.walk [0, 1, 2, 3, 4, 5, 6, 7, 8] mixed ?_ ?_); · decide +kernel)
                     | ((with_reducible refine DrawSt.walk [0, 1, 2, 3, 4, 5, 6, 7, 8, 9, 10, 11, 12, 13, 14] mixed ?_ ?_); · decide +kernel)
                     | ((with_reducible apply CallG.decY (f := 93)); (· (apply GSpec.cast (sp := f93 _ _ _ _); (· (repeat' (with_reducible rfl))); all_goals (fail))); · (dsimp only; omega))
                     | ((with_reducible apply LoadSt.rdg (g := enV) (s := 3)); (· rfl); (· (repeat (first | with_reducible assumption | with_reducible apply Rd.cons | with_reducible apply Rd.appR))); (· exact fun _ => rfl); (· decide); · (omega))
                     | ((with_reducible apply IdxSl.bufm (s := 3)); (· with_reducible assumption); (· rfl); (· rfl); (· with_reducible rfl); · (omega))
                     | (with_reducible refine NextSt.mk ?_)
                     | (with_reducible refine OnBB.tt ?_)
                     | (with_reducible refine OnBB.ff ?_)
                     | ((with_reducible apply Cmp.no); · omega)
                     | ((with_reducible apply LoadSt.box); · (repeat (first | exact List.Mem.head _ | with_reducible apply List.mem_append_right | with_reducible apply List.mem_cons_of_mem)))
                     | ((with_reducible apply LoadSt.boxAgg); · (repeat (exact List.Mem.head _)))
                     | ((with_reducible refine AllocSt.mk ?_); intro _b _hb _hbO)
                     | ((with_reducible apply IdxSl.own1); (· rfl); (· with_reducible rfl); · (omega))
                     | ((with_reducible apply Cmp.yes); · (dsimp only; omega)))
            refine FinSt.own (R := BR r b S (.int .i64 92)) (O1 := bH r S.1 b S.2) (by (try dsimp only); (try simp only [List.cons_append, List.nil_append]); (repeat (first | with_reducible exact List.Sublist.refl _ | with_reducible apply List.Sublist.cons))) ?_
            exact BR.same hk
        · rw [if_neg (fun x => h3 x.1)]
          by_cases h4 : n = (b.ls.getD o default).2.length
          · rw [if_neg (fun x => x h4)]
            refine GSpec.enter (fn := Try.f61) Try.func61 rfl (by kernel_rfl) ?_
            repeat' (conv => whnf
                     first
                     | ((with_reducible refine CallSt.rd (f := 109) (X := .bool false) ?_ ?_); (· exact GSpec.locRet (H := bH r S.1 b S.2) (by (repeat (first | with_reducible exact Loc.last | with_reducible apply Loc.tl))) (e109 _)))
                     | ((with_reducible refine CallG.rd (f := 82) (X := .int .i64 0) ?_ ?_); (· exact e82 _ _))
                     | (((with_reducible apply LoadSt.ownd (g := slV)); (· (repeat (first | exact List.Mem.head _ | with_reducible apply List.mem_append_right | with_reducible apply List.mem_cons_of_mem))); (· (exact Nat.zero_add _)); (· (omega))))
                     | ((with_reducible apply CallSt.loc (f := 111) (H := bH r S.1 b S.2) (R := BR r b (putV S ⟨o, n, bo⟩).1 (.int .i64 (putV S ⟨o, n, bo⟩).2))); (· (repeat (first | with_reducible exact Loc.last | with_reducible apply Loc.tl))); (· exact e111 (hcv.2 (.inl h4)) _); rintro _ _ ⟨r', b', hr1, hb1, hk2, rfl, rfl⟩)
                     | ((with_reducible refine DrawSt.walk [0, 1, 2, 3, 4, 5, 6, 7, 8, 9, 10, 11, 12, 13] mixed ?_ ?_); · decide +kernel)
                     | ((with_reducible refine DrawSt.walk [0, 1, 2, 3, 4, 5, 6, 7, 8] mixed ?_ ?_); · decide +kernel)
                     | ((with_reducible refine DrawSt.walk [0, 1, 2, 3, 4, 5, 6, 7, 8, 9, 10, 11, 12, 13, 14] mixed ?_ ?_); · decide +kernel)
                     | ((with_reducible apply CallG.decY (f := 93)); (· (apply GSpec.cast (sp := f93 _ _ _ _); (· (repeat' (with_reducible rfl))); all_goals (fail))); · (dsimp only; omega))
                     | (with_reducible refine NextSt.mk ?_)
                     | (with_reducible refine OnBB.tt ?_)
                     | (with_reducible refine OnBB.ff ?_)
                     | ((with_reducible apply Cmp.no); · omega)
                     | ((with_reducible apply LoadSt.box); · (repeat (first | exact List.Mem.head _ | with_reducible apply List.mem_append_right | with_reducible apply List.mem_cons_of_mem)))
                     | ((with_reducible apply LoadSt.boxAgg); · (repeat (exact List.Mem.head _)))
                     | ((with_reducible refine AllocSt.mk ?_); intro _b _hb _hbO)
                     | ((with_reducible apply IdxSl.own1); (· rfl); (· with_reducible rfl); · (omega))
                     | ((with_reducible apply Cmp.no); · (dsimp only; omega)))
            refine FinSt.own (R := BR r b _ (.int .i64 (putV S ⟨o, n, bo⟩).2)) (O1 := bH r' _ b' _) (by (try dsimp only); (try simp only [List.cons_append, List.nil_append]); (repeat (first | with_reducible exact List.Sublist.refl _ | with_reducible apply List.Sublist.cons))) ?_
            exact ⟨r', b', hr1, hb1, hk2, rfl, rfl⟩
          · rw [if_pos h4]
            refine GSpec.enter (fn := Try.f61) Try.func61 rfl (by kernel_rfl) ?_
            repeat' (conv => whnf
                     first
                     | ((with_reducible refine CallSt.rd (f := 109) (X := .bool false) ?_ ?_); (· exact GSpec.locRet (H := bH r S.1 b S.2) (by (repeat (first | with_reducible exact Loc.last | with_reducible apply Loc.tl))) (e109 _)))
                     | ((with_reducible refine CallG.rd (f := 82) (X := .int .i64 0) ?_ ?_); (· exact e82 _ _))
                     | (((with_reducible apply LoadSt.ownd (g := slV)); (· (repeat (first | exact List.Mem.head _ | with_reducible apply List.mem_append_right | with_reducible apply List.mem_cons_of_mem))); (· (exact Nat.zero_add _)); (· (omega))))
                     | ((with_reducible refine DrawSt.walk [0, 1, 2, 3, 4, 5, 6, 7, 8, 9, 10, 11, 12, 13] mixed ?_ ?_); · decide +kernel)
                     | ((with_reducible refine DrawSt.walk [0, 1, 2, 3, 4, 5, 6, 7, 8] mixed ?_ ?_); · decide +kernel)
                     | ((with_reducible refine DrawSt.walk [0, 1, 2, 3, 4, 5, 6, 7, 8, 9, 10, 11, 12, 13, 14] mixed ?_ ?_); · decide +kernel)
                     | ((with_reducible apply CallG.decY (f := 93)); (· (apply GSpec.cast (sp := f93 _ _ _ _); (· (repeat' (with_reducible rfl))); all_goals (fail))); · (dsimp only; omega))
                     | (with_reducible refine NextSt.mk ?_)
                     | (with_reducible refine OnBB.tt ?_)
                     | (with_reducible refine OnBB.ff ?_)
                     | ((with_reducible apply Cmp.no); · omega)
                     | ((with_reducible apply LoadSt.box); · (repeat (first | exact List.Mem.head _ | with_reducible apply List.mem_append_right | with_reducible apply List.mem_cons_of_mem)))
                     | ((with_reducible apply LoadSt.boxAgg); · (repeat (exact List.Mem.head _)))
                     | ((with_reducible refine AllocSt.mk ?_); intro _b _hb _hbO)
                     | ((with_reducible apply IdxSl.own1); (· rfl); (· with_reducible rfl); · (omega))
                     | ((with_reducible apply Cmp.yes); · (dsimp only; omega))
                     | ((with_reducible apply Cmp.no); · (dsimp only; omega)))
            refine FinSt.own (R := BR r b S (.int .i64 92)) (O1 := bH r S.1 b S.2) (by (try dsimp only); (try simp only [List.cons_append, List.nil_append]); (repeat (first | with_reducible exact List.Sublist.refl _ | with_reducible apply List.Sublist.cons))) ?_
            exact BR.same hk
      · have e1 : addV S e = (S, 92) := by unfold addV; rw [if_neg (show ¬ downV S from h0), if_pos (fun x => h2 (by rw [← hlen, hlg]; exact x.2))]
        have a1 := h1.1
        rw [e1]
        refine GSpec.enter (fn := Try.f61) Try.func61 rfl (by kernel_rfl) ?_
        repeat' (conv => whnf
                 first
                 | ((with_reducible refine CallSt.rd (f := 109) (X := .bool false) ?_ ?_); (· exact GSpec.locRet (H := bH r S.1 b S.2) (by (repeat (first | with_reducible exact Loc.last | with_reducible apply Loc.tl))) (e109 _)))
                 | ((with_reducible refine CallG.rd (f := 82) (X := .int .i64 0) ?_ ?_); (· exact e82 _ _))
                 | ((with_reducible refine DrawSt.walk [0, 1, 2, 3, 4, 5, 6, 7, 8, 9, 10, 11, 12, 13] mixed ?_ ?_); · decide +kernel)
                 | ((with_reducible apply CallG.decN (f := 93)); (· (apply GSpec.cast (sp := f93 _ _ _ _); (· (repeat' (with_reducible rfl))); all_goals (fail))); · omega)
                 | (with_reducible refine NextSt.mk ?_)
                 | (with_reducible refine OnBB.tt ?_)
                 | (with_reducible refine OnBB.ff ?_)
                 | ((with_reducible apply Cmp.no); · omega)
                 | ((with_reducible apply LoadSt.box); · (repeat (first | exact List.Mem.head _ | with_reducible apply List.mem_append_right | with_reducible apply List.mem_cons_of_mem)))
                 | ((with_reducible apply LoadSt.boxAgg); · (repeat (exact List.Mem.head _)))
                 | ((with_reducible refine AllocSt.mk ?_); intro _b _hb _hbO))
        refine FinSt.own (R := BR r b S (.int .i64 92)) (O1 := bH r S.1 b S.2) (by (try dsimp only); (try simp only [List.cons_append, List.nil_append]); (repeat (first | with_reducible exact List.Sublist.refl _ | with_reducible apply List.Sublist.cons))) ?_
        exact BR.same hk
    · have e1 : addV S e = (S, 92) := by unfold addV; rw [if_neg (show ¬ downV S from h0), if_pos (fun x => h1 x.1)]
      have e82 := fun h O => f82 e hbl h O
      rw [show chkE e = 92 from if_neg h1] at e82
      rw [e1]
      refine GSpec.enter (fn := Try.f61) Try.func61 rfl (by kernel_rfl) ?_
      repeat' (conv => whnf
               first
               | ((with_reducible refine CallSt.rd (f := 109) (X := .bool false) ?_ ?_); (· exact GSpec.locRet (H := bH r S.1 b S.2) (by (repeat (first | with_reducible exact Loc.last | with_reducible apply Loc.tl))) (e109 _)))
               | ((with_reducible refine CallG.rd (f := 82) (X := .int .i64 92) ?_ ?_); (· exact e82 _ _))
               | ((with_reducible refine DrawSt.walk [0, 1, 2, 3, 4, 5, 6, 7, 8, 9, 10, 11, 12, 13] mixed ?_ ?_); · decide +kernel)
               | (with_reducible refine NextSt.mk ?_)
               | (with_reducible refine OnBB.tt ?_)
               | (with_reducible refine OnBB.ff ?_)
               | ((with_reducible apply Cmp.yes); · omega)
               | ((with_reducible apply LoadSt.boxAgg); · (repeat (exact List.Mem.head _)))
               | ((with_reducible refine AllocSt.mk ?_); intro _b _hb _hbO))
      refine FinSt.own (R := BR r b S (.int .i64 92)) (O1 := bH r S.1 b S.2) (by (try dsimp only); (try simp only [List.cons_append, List.nil_append]); (repeat (first | with_reducible exact List.Sublist.refl _ | with_reducible apply List.Sublist.cons))) ?_
      exact BR.same hk
end Go.Proofs.Ytlbmlimaobkhpaa
/- The program's books: making. -/
namespace Go.Proofs.Ytlbmlimaobkhpaa
open Go Go.Gv
set_option maxRecDepth 100000
set_option maxHeartbeats 4000000
set_option linter.unusedSimpArgs false
set_option linter.unusedVariables false

/-- What making or opening leaves. -/
def GotB (r : Dr) (x : Dk × Option Bk × Int) (v : Value) (O' : Hp) : Prop :=
  match x.2.1 with
  | some k => ∃ r' b, r'.p = r.p ∧ bOk r' x.1 b k ∧ O' = bH r' x.1 b k ∧ v = .tuple ⟨[pP b.p, .int .i64 x.2.2]⟩
  | none => ∃ r', r'.p = r.p ∧ dOk r' x.1 ∧ O' = dHp r' x.1 ∧ v = .tuple ⟨[.pointer none, .int .i64 x.2.2]⟩
theorem GotB.no {r : Dr} {d : Dk} {e : Int} {sb wb : Buf} (hk : dOk ⟨r.p, sb, wb⟩ d) : GotB r (d, none, e) (.tuple ⟨[.pointer none, .int .i64 e]⟩) (dHp ⟨r.p, sb, wb⟩ d) := ⟨⟨r.p, sb, wb⟩, rfl, hk, rfl, rfl⟩
theorem lOk.nil (n : Nat) : lOk (List.replicate n (default : Lg)) := fun q hq => by
  rw [List.eq_of_mem_replicate hq]; exact Buf.nil_ok 3
theorem lgHp_nil : ∀ n : Nat, lgHp (List.replicate n (default : Lg)) = []
  | 0 => rfl
  | n + 1 => by
    rw [List.replicate_succ]
    show Buf.nil.hp 70 _ ++ lgHp (List.replicate n default) = []
    rw [lgHp_nil n]; rfl
theorem logs_nil (p lp n : Nat) : (⟨p, lp, List.replicate n (default : Lg)⟩ : Br).logs = List.replicate n [] := by
  show (List.replicate n (default : Lg)).map Prod.snd = _
  rw [List.map_replicate]; rfl
theorem dHp_hd (r : Dr) (d : Dk) : (r.p, Obj.cells ⟨[.slice r.sb.a d.safe.length r.sb.cap, .slice r.wb.a d.waits.length r.wb.cap, .bool d.off, iN d.armed, iN d.falls]⟩ 141 (0, 0)) ∈ dHp r d := List.Mem.head _
theorem payB_len (n : Nat) : (payB n).length = 2 := rfl
theorem f69 (r : Dr) (d : Dk) (B : Nat) (n : Int) (hd : d.okB B) (hB : B + 20 < 1000000000) (hk : dOk r d) (h : View) :
    GSpec Try.prog 69 [dP r, .int .i64 n] h (dHp r d) (fun v _ O' => GotB r (makeV d n) v O') := by
  have hsz := hd.size
  have hpl := payB_len n.toNat
  by_cases hn : n < 1 ∨ 8 < n
  · rw [show makeV d n = (d, none, 1) from if_pos hn]
    refine GSpec.enter (fn := Try.f69) Try.func69 rfl (by kernel_rfl) ?_
    repeat' (conv => whnf
             first
             | (with_reducible refine NextSt.mk ?_)
             | (with_reducible refine OnBB.tt ?_)
             | (with_reducible refine OnBB.ff ?_)
             | ((with_reducible apply Cmp.yes); · omega)
             | ((with_reducible refine Cmp.mk ?_ ?_) <;> intro _hc))
    all_goals
      refine FinSt.own (R := GotB r (d, none, 1)) (O1 := dHp r d) (by (try dsimp only); (try simp only [List.cons_append, List.nil_append]); (repeat (with_reducible exact List.Sublist.refl _))) ?_
      exact GotB.no (sb := r.sb) (wb := r.wb) hk
  · obtain ⟨n, rfl⟩ := nat_of (show 0 ≤ n by omega)
    cases ho : d.off
    · have e47 := fun h => f47 r d h
      rw [ho] at e47
      by_cases h0 : (keepV d 0 (payB n)).2 = 0
      · rw [show makeV d (n : Int) = ((keepV d 0 (payB n)).1, some ⟨List.replicate n [], 1, d.falls⟩, 0) from by
          unfold makeV; simp only [if_neg hn, ho, Int.toNat_natCast, if_pos h0]; rfl]
        refine GSpec.enter (fn := Try.f69) Try.func69 rfl (by kernel_rfl) ?_
        repeat' (conv => whnf
                 first
                 | ((with_reducible refine CallSt.rd (f := 47) (X := .bool true) ?_ ?_); (· exact e47 _))
                 | (((apply MakeSt.n (n := n) (z := [.slice none 0 0])); (· rfl); (· rfl); (· (show 24 * _ ≤ _; omega)); (· omega); (· rfl); (· rfl)); intro lb _hlb _hlbO; rw [show rows n [Value.slice none 0 0] = (List.replicate n (default : Lg)).map slV from rows_map (g := slV) (d := default) n])
                 | (((with_reducible apply LoadSt.box); (· repeat (exact dHp_hd _ _))))
                 | ((with_reducible refine CallSt.rd (f := 134) (X := sV (payB n)) ?_ ?_); (· exact f134 n (by omega) _ _))
                 | ((with_reducible apply CallSt.frame (f := 133) (H := dHp r d ++ [bkc _b (.slice (some ⟨lb, 0, none⟩) n n) r.p 0 d.falls]) (G := [(lb, .cells ⟨(List.replicate n (default : Lg)).map slV⟩ 63 (0, 0))]) (R := KeepR _b (.slice (some ⟨lb, 0, none⟩) n n) r d 0 d.falls (payB n))); (· (rw [List.append_assoc]; exact (List.perm_append_comm (l₁ := [_, _]) (l₂ := dHp r d)))); (· exact f133 _ _ r d 0 d.falls B (payB n) (by rw [payB_len]; decide) (by decide) hd (by rw [show (payB n).length = 2 from rfl]; show B + 1 + 3 < _; omega) hk _); rintro _ _ ⟨r', hr1, hr2, rfl, rfl⟩; rw [if_pos h0]; rw [h0])
                 | ((with_reducible refine DrawSt.walk [0, 2, 3, 4, 5, 6, 1, 7, 8, 9] mixed ?_ ?_); · decide +kernel)
                 | (with_reducible refine NextSt.mk ?_)
                 | (with_reducible refine OnBB.tt ?_)
                 | (with_reducible refine OnBB.ff ?_)
                 | ((with_reducible apply Cmp.no); · omega)
                 | ((with_reducible refine AllocSt.mk ?_); intro _b _hb _hbO))
        refine FinSt.own (R := GotB r _) (O1 := (dHp r' (keepV d 0 (payB n)).1 ++ [bkc _b (.slice (some ⟨lb, 0, none⟩) n n) r.p (0 + secN (payB n).length) d.falls]) ++ [(lb, .cells ⟨(List.replicate n (default : Lg)).map slV⟩ 63 (0, 0))]) (by (try dsimp only); (try simp only [List.cons_append, List.nil_append]); (repeat (with_reducible exact List.Sublist.refl _))) ⟨r', ⟨_b, lb, List.replicate n default⟩, hr1, ⟨hr2, logs_nil _ _ _, lOk.nil n⟩, ?_, rfl⟩
        rw [← hr1]
        simp only [bH, bkV, List.length_replicate, lgHp_nil, List.append_assoc]
        rw [show secN (payB n).length = 1 from by rw [payB_len]; rfl]
        rfl
      · rw [show makeV d (n : Int) = ((keepV d 0 (payB n)).1, none, (keepV d 0 (payB n)).2) from by
          unfold makeV; simp only [if_neg hn, ho, Int.toNat_natCast, if_neg h0]; rfl]
        refine GSpec.enter (fn := Try.f69) Try.func69 rfl (by kernel_rfl) ?_
        repeat' (conv => whnf
                 first
                 | ((with_reducible refine CallSt.rd (f := 47) (X := .bool true) ?_ ?_); (· exact e47 _))
                 | (((apply MakeSt.n (n := n) (z := [.slice none 0 0])); (· rfl); (· rfl); (· (show 24 * _ ≤ _; omega)); (· omega); (· rfl); (· rfl)); intro lb _hlb _hlbO; rw [show rows n [Value.slice none 0 0] = (List.replicate n (default : Lg)).map slV from rows_map (g := slV) (d := default) n])
                 | (((with_reducible apply LoadSt.box); (· repeat (exact dHp_hd _ _))))
                 | ((with_reducible refine CallSt.rd (f := 134) (X := sV (payB n)) ?_ ?_); (· exact f134 n (by omega) _ _))
                 | ((with_reducible apply CallSt.frame (f := 133) (H := dHp r d ++ [bkc _b (.slice (some ⟨lb, 0, none⟩) n n) r.p 0 d.falls]) (G := [(lb, .cells ⟨(List.replicate n (default : Lg)).map slV⟩ 63 (0, 0))]) (R := KeepR _b (.slice (some ⟨lb, 0, none⟩) n n) r d 0 d.falls (payB n))); (· (rw [List.append_assoc]; exact (List.perm_append_comm (l₁ := [_, _]) (l₂ := dHp r d)))); (· exact f133 _ _ r d 0 d.falls B (payB n) (by rw [payB_len]; decide) (by decide) hd (by rw [show (payB n).length = 2 from rfl]; show B + 1 + 3 < _; omega) hk _); rintro _ _ ⟨r', hr1, hr2, rfl, rfl⟩; rw [if_neg h0])
                 | ((with_reducible refine DrawSt.walk [0, 2, 3, 4, 5, 6, 1, 7, 8, 9] mixed ?_ ?_); · decide +kernel)
                 | (with_reducible refine NextSt.mk ?_)
                 | (with_reducible refine OnBB.tt ?_)
                 | (with_reducible refine OnBB.ff ?_)
                 | ((with_reducible apply Cmp.yes); · omega)
                 | ((with_reducible apply Cmp.no); · omega)
                 | ((with_reducible refine AllocSt.mk ?_); intro _b _hb _hbO))
        refine FinSt.own (R := GotB r _) (O1 := dHp r' (keepV d 0 (payB n)).1) (by rw [List.append_assoc]; exact List.sublist_append_left _ _) ?_
        exact ⟨r', hr1, hr2, rfl, rfl⟩
    · have e47 := fun h => f47 r d h
      rw [ho] at e47
      rw [show makeV d (n : Int) = (d, none, 93) from by unfold makeV; simp only [if_neg hn, ho]; rfl]
      refine GSpec.enter (fn := Try.f69) Try.func69 rfl (by kernel_rfl) ?_
      repeat' (conv => whnf
               first
               | ((with_reducible refine CallSt.rd (f := 47) (X := .bool false) ?_ ?_); (· exact e47 _))
               | (with_reducible refine NextSt.mk ?_)
               | (with_reducible refine OnBB.tt ?_)
               | (with_reducible refine OnBB.ff ?_)
               | ((with_reducible apply Cmp.no); · omega))
      refine FinSt.own (R := GotB r (d, none, 93)) (O1 := dHp r d) (by (try dsimp only); (try simp only [List.cons_append, List.nil_append]); (repeat (with_reducible exact List.Sublist.refl _))) ?_
      exact GotB.no (sb := r.sb) (wb := r.wb) hk
end Go.Proofs.Ytlbmlimaobkhpaa
/- All messages of a book. -/
namespace Go.Proofs.Ytlbmlimaobkhpaa
open Go Go.Gv
set_option maxRecDepth 100000
set_option maxHeartbeats 4000000
set_option linter.unusedSimpArgs false
set_option linter.unusedVariables false

/-- A row that is new. -/
def RowR (l : List En) (v : Value) (H : Hp) : Prop := ∃ B : Buf, v = .slice B.a l.length B.cap ∧ H = B.hp 70 (l.flatMap enV) ∧ B.ok 3 (l.flatMap enV) l.length
theorem f155 (n : Nat) (hn : n < 1000000) (h : View) (O : Hp) : GSpec Try.prog 155 [.slice none 0 0, iN n] h O (New O (RowR [])) := by
  by_cases h0 : n = 0
  · subst h0
    refine GSpec.enter (fn := Try.f155) Try.func155 rfl (by kernel_rfl) ?_
    repeat' (conv => whnf
             first
             | (with_reducible refine NextSt.mk ?_)
             | (with_reducible refine OnBB.ff ?_)
             | ((with_reducible apply NW.subN); (· with_reducible rfl); (· with_reducible rfl); (· omega))
             | ((with_reducible apply Cmp.no); · omega))
    refine FinSt.new (H := []) (R := RowR []) (by (try dsimp only); (try simp only [List.cons_append, List.nil_append]); (repeat (with_reducible exact List.Sublist.refl _))) ⟨Buf.nil, rfl, rfl, Buf.nil_ok 3⟩
  · refine GSpec.enter (fn := Try.f155) Try.func155 rfl (by kernel_rfl) ?_
    repeat' (conv => whnf
             first
             | (((apply RunSt.grow (n := n) (kn := .i64) (z := .agg ⟨[.int .i64 0, .int .i64 0, .string ⟨⟨[]⟩⟩]⟩)); (· rfl); (· rfl); (· rfl); (· rfl); (· rfl); (· (show ((n - (0 - 0) : Nat) : Int) = _; simp)); (· omega); (· decide); (· (show _ * 32 ≤ _; omega)); (· omega)); intro A hA)
             | (with_reducible refine NextSt.mk ?_)
             | (with_reducible refine OnBB.tt ?_)
             | (with_reducible refine OnBB.ff ?_)
             | ((with_reducible apply NW.subN); (· with_reducible rfl); (· with_reducible rfl); (· omega))
             | ((with_reducible apply Cmp.yes); · omega)
             | ((with_reducible apply Cmp.no); · omega)
             | ((with_reducible apply SlSl.hi); (· with_reducible rfl); (· (omega))))
    obtain ⟨A2, e1, e2, e3, e4⟩ := Buf.empty hA
    refine FinSt.new (H := A.hp 70 _) (R := RowR []) (List.Sublist.refl _) ⟨A2, ?_, (e4 70).symm, e3⟩
    rw [e1, e2]; rfl
def catL (ls : List Lg) : List En := ls.flatMap Prod.snd
theorem catL_take {ls : List Lg} {k : Nat} (h : k < ls.length) : catL (ls.take (k + 1)) = catL (ls.take k) ++ (ls.getD k default).2 := by
  rw [take_succ (d := default) h]; simp [catL]
theorem catL_le {ls : List Lg} {N : Nat} (h : ∀ q ∈ ls, q.2.length ≤ N) : (catL ls).length ≤ ls.length * N := by
  induction ls with
  | nil => simp [catL]
  | cons q ls ih =>
    have h1 := ih fun x hx => h x (by simp [hx])
    have h2 := h q (by simp)
    simp only [catL, List.flatMap_cons, List.length_append, List.length_cons] at h1 ⊢
    rw [Nat.add_mul, Nat.one_mul]; omega
theorem f114 (ls : List Lg) (a : Option Addr) (cap : Nat) (hn : ls.length ≤ 8) (hq : ∀ q ∈ ls, q.2.length ≤ 64) (h0 : ∀ q ∈ ls, q.1.a = none → q.2.length = 0) (h : View) (O : Hp) (hr : Rd h O a (ls.map slV))
    (hqr : ∀ q ∈ ls, Rd h O q.1.a (q.2.flatMap enV)) : GSpec Try.prog 114 [.slice a ls.length cap] h O (New O (RowR (catL ls))) := by
  have hb : ∀ k, (catL (ls.take k)).length ≤ 512 := fun k => Nat.le_trans (catL_le fun q hqm => hq q (List.mem_of_mem_take hqm)) (by rw [List.length_take]; have := Nat.mul_le_mul_right 64 (show min k ls.length ≤ 8 by omega); omega)
  refine GSpec.enter (fn := Try.f114) Try.func114 rfl (by kernel_rfl) ?_
  repeat' (conv => whnf
           first
           | (with_reducible refine NextSt.mk ?_))
  refine LoopSt.fix [3, 5, 11, 12, 13, 14, 15, 16, 17, 18, 19, 20, 21, 22] (fun (k : Nat) => [(3, iN (catL (ls.take k)).length), (11, iN k)]) (fun _ => _) (fun k => k ≤ ls.length) (fun k => ls.length - k) (0) _ (Wk.refl _ _) (rfl) ?_ ?_ ?_
  · repeat' (first | exact True.intro | refine And.intro ?_ ?_ | rfl)
  · exact Nat.zero_le _
  · intro k d hk
    have hbk := hb k
    by_cases hkn : k < ls.length
    · have hm := getD_mem (d := default) hkn
      have hqk := hq _ hm
      have hct := catL_take hkn
      repeat' (conv => whnf
               first
               | (((with_reducible apply LoadSt.rdm (g := slV)); (· exact hr); (· (omega))))
               | (with_reducible refine NextSt.mk ?_)
               | (with_reducible refine OnBB.tt ?_)
               | (with_reducible refine OnBB.ff ?_)
               | ((with_reducible apply NW.addN); (· with_reducible rfl); (· first | with_reducible rfl | exact natL _); (· omega))
               | ((with_reducible apply Cmp.yes); · omega)
               | ((with_reducible apply Cmp.no); · omega)
               | ((with_reducible apply IdxSl.rd1); (· with_reducible assumption); (· rfl); (· with_reducible rfl); (· (omega)); · ((simp only [List.length_map, List.length_append, List.length_cons, List.length_nil, List.length_take, List.length_drop, List.length_replicate, List.length_set] at *; omega))))
      refine RoundFix.mk (k + 1) ?_ ?_ _ rfl (Wk.drop (by (try dsimp only); (try simp only [List.cons_append, List.nil_append]); (repeat (with_reducible exact List.Sublist.refl _)))) ?_
      · omega
      · repeat' (first | exact True.intro | refine And.intro ?_ ?_ | exact congrArg iN (by rw [hct, List.length_append]) | rfl)
      · omega
    · have : k = ls.length := by omega
      subst this
      rw [List.take_length] at *
      repeat' (conv => whnf
               first
               | ((apply CallSt.new (f155 _ (by omega) _ _); rintro _ _ ⟨A, rfl, rfl, hA⟩))
               | (with_reducible refine NextSt.mk ?_)
               | (with_reducible refine OnBB.ff ?_)
               | ((with_reducible apply Cmp.no); · omega))
      refine LoopSt.fix [6, 8, 27, 28, 29, 30, 31, 32, 33, 34] (fun ((k, B) : Nat × Buf) => [(6, .slice B.a (catL (ls.take k)).length B.cap), (27, iN k)]) (fun (k, B) => B.hp 70 ((catL (ls.take k)).flatMap enV) ++ O) (fun (k, B) => k ≤ ls.length ∧ B.ok 3 ((catL (ls.take k)).flatMap enV) (catL (ls.take k)).length) (fun (k, B) => ls.length - k) ((0, A)) _ (Wk.refl _ _) (rfl) ?_ ?_ ?_
      · repeat' (first | exact True.intro | refine And.intro ?_ ?_ | rfl)
      · exact ⟨Nat.zero_le _, hA⟩
      · rintro ⟨k, B⟩ d ⟨hk, hB⟩
        dsimp only at hk hB ⊢
        have hbk := hb k
        by_cases hkn : k < ls.length
        · have hm := getD_mem (d := default) hkn
          have hqk := hq _ hm
          have h0k := h0 _ hm
          have hct := catL_take hkn
          have hrk := hqr _ hm
          repeat' (conv => whnf
                   first
                   | (((with_reducible apply LoadSt.rdm (g := slV)); (· exact Rd.appR hr); (· (omega))))
                   | ((refine AppSt.rowm (g := enV) (ys := (ls.getD k default).2) (s := 3) (z := .agg ⟨[.int .i64 0, .int .i64 0, .string ⟨⟨[]⟩⟩]⟩) Gv.Loc.hd hB (Rd.appR hrk) rfl h0k (fun _ => rfl) (fun _ => rfl) rfl rfl rfl rfl (by show _ * 32 ≤ _; omega) (by omega) ?_); intro D hD; rw [← hct] at hD ⊢)
                   | (with_reducible refine NextSt.mk ?_)
                   | (with_reducible refine OnBB.tt ?_)
                   | ((with_reducible apply NW.addN); (· with_reducible rfl); (· exact natL _); (· omega))
                   | ((with_reducible apply Cmp.yes); · omega)
                   | ((with_reducible apply IdxSl.rd1); (· with_reducible assumption); (· rfl); (· with_reducible rfl); (· (omega)); · ((simp only [List.length_map, List.length_append, List.length_cons, List.length_nil, List.length_take, List.length_drop, List.length_replicate, List.length_set] at *; omega))))
          have hlen : (catL (ls.take (k + 1))).length = (catL (ls.take k)).length + (ls.getD k default).2.length := by rw [hct, List.length_append]
          rw [← hlen] at hD
          refine RoundFix.mk ((k + 1, D)) ?_ ?_ _ rfl (Wk.drop (by (try dsimp only); (try simp only [List.cons_append, List.nil_append]); (repeat (with_reducible exact List.Sublist.refl _)))) ?_
          · dsimp only; omega
          · repeat' (first | exact True.intro | refine And.intro ?_ ?_ | exact congrArg (fun n => Value.slice D.a n D.cap) hlen.symm | rfl)
          · exact ⟨by omega, hD⟩
        · have : k = ls.length := by omega
          subst this
          rw [List.take_length] at hB ⊢
          repeat' (conv => whnf
                   first
                   | (with_reducible refine NextSt.mk ?_)
                   | (with_reducible refine OnBB.ff ?_)
                   | ((with_reducible apply Cmp.no); · omega))
          refine FinSt.new (H := B.hp 70 ((catL ls).flatMap enV)) (R := RowR (catL ls)) (List.Sublist.refl _) ⟨B, rfl, rfl, hB⟩
theorem f57 (r : Dr) (b : Br) (S : DB) (hw : wfL S.2.logs) (hk : bOk r S.1 b S.2) (h : View) : GSpec Try.prog 57 [pP b.p] h (bH r S.1 b S.2) (New (bH r S.1 b S.2) (RowR S.2.logs.flatten)) := by
  have hlg := hk.logs
  have hlen := logs_len b
  have hwb : wfL b.logs := by rw [hlg]; exact hw
  have hb8 := hwb.len
  have hflat : catL b.ls = S.2.logs.flatten := by rw [← hlg]; simp [catL, Br.logs, List.flatMap]
  have hmem : ∀ q ∈ b.ls, ∃ i < b.ls.length, b.ls.getD i default = q := fun q hq => by
    obtain ⟨i, hi, e⟩ := List.getElem_of_mem hq
    exact ⟨i, hi, by rw [List.getD_eq_getElem?_getD, List.getElem?_eq_getElem hi]; exact e⟩
  have e114 := fun h O hr hqr => f114 b.ls (some ⟨b.lp, 0, none⟩) b.ls.length (by omega) (fun q hq => by
    obtain ⟨i, hi, rfl⟩ := hmem q hq
    have := hwb.log i (by omega)
    rwa [logs_get hi] at this) (fun q hq ha => Buf.none_len (hk.ls q hq) ha) h O hr hqr
  rw [hflat] at e114
  refine GSpec.enter (fn := Try.f57) Try.func57 rfl (by kernel_rfl) ?_
  repeat' (conv => whnf
           first
           | (((apply CallSt.new (f := 114)); (· exact e114 _ _ (Rd.appR (Rd.cons (Rd.own0 (List.Mem.head _)))) (fun q hq => by obtain ⟨i, hi, rfl⟩ := hmem q hq; exact Rd.appR (Rd.cons (Rd.cons (lgHp_rd hk.ls hi))))); rintro _ _ ⟨A, rfl, rfl, hA⟩))
           | (with_reducible refine NextSt.mk ?_)
           | ((with_reducible apply LoadSt.box); · (repeat (first | exact List.Mem.head _ | with_reducible apply List.mem_append_right))))
  refine FinSt.new (H := A.hp 70 (S.2.logs.flatten.flatMap enV)) (R := RowR S.2.logs.flatten) (List.Sublist.refl _) ⟨A, rfl, rfl, hA⟩
end Go.Proofs.Ytlbmlimaobkhpaa
/- Messages in frames. -/
namespace Go.Proofs.Ytlbmlimaobkhpaa
open Go Go.Gv
set_option maxRecDepth 100000
set_option maxHeartbeats 4000000
set_option linter.unusedSimpArgs false
set_option linter.unusedVariables false

def partsN (n : Nat) : Nat := max 1 ((n + 31) / 32)
def splitF (e : En) : List Fr := (List.range (partsN e.body.length)).map fun i : Nat => ⟨e.office, e.no, (i : Int), partsN e.body.length, (e.body.take (min e.body.length (i * 32 + 32))).drop (i * 32)⟩
instance : Inhabited Fr := ⟨fr0⟩
theorem splitF_len (e : En) : (splitF e).length = partsN e.body.length := by simp [splitF]
theorem splitF_take {e : En} {k : Nat} (h : k < partsN e.body.length) : (splitF e).take k ++ [⟨e.office, e.no, k, partsN e.body.length, (e.body.take (min e.body.length (k * 32 + 32))).drop (k * 32)⟩] = (splitF e).take (k + 1) := by
  rw [take_succ (d := default) (by rw [splitF_len]; exact h)]
  congr 2
  unfold splitF
  rw [List.getD_eq_getElem?_getD, List.getElem?_map, List.getElem?_range h]; rfl
/-- A row of frames that is new, and an error. -/
def FrsR (l : List Fr) (err : Int) (v : Value) (H : Hp) : Prop := ∃ B : Buf, v = .tuple ⟨[.slice B.a l.length B.cap, .int .i64 err]⟩ ∧ H = B.hp 23 (l.flatMap frV) ∧ B.ok 5 (l.flatMap frV) l.length
def splitV (e : En) : List Fr × Int := if enOk e then (splitF e, 0) else ([], 92)
theorem f76 (e : En) (hb : e.body.length < 1000000) (h : View) (O : Hp) : GSpec Try.prog 76 [.agg ⟨enV e⟩] h O (New O (FrsR (splitV e).1 (splitV e).2)) := by
  have e82 := fun h O => f82 e hb h O
  by_cases h1 : enOk e
  · rw [show splitV e = (splitF e, 0) from if_pos h1]
    rw [show chkE e = 0 from if_pos h1] at e82
    have hlen := splitF_len e
    have hp1 : 1 ≤ partsN e.body.length := by unfold partsN; omega
    have hp2 : partsN e.body.length ≤ 32 := by have := h1.2.2.2.2; unfold partsN; omega
    have hp3 : ∀ k < partsN e.body.length, k * 32 ≤ e.body.length := fun k hk => by unfold partsN at hk; omega
    have hpm : max 1 ((e.body.length + 32 - 1) / 32) = partsN e.body.length := by unfold partsN; congr 1
    have hbl := h1.2.2.2.2
    refine GSpec.enter (fn := Try.f76) Try.func76 rfl (by kernel_rfl) ?_
    repeat' (conv => whnf
             first
             | ((with_reducible refine CallSt.rd (f := 82) (X := .int .i64 0) ?_ ?_); (· exact e82 _ _))
             | (((with_reducible apply MinMax.maxN); (· exact natL _); (· with_reducible rfl)); rw [hpm])
             | (with_reducible refine NextSt.mk ?_)
             | (with_reducible refine OnBB.ff ?_)
             | ((with_reducible apply NW.addN); (· with_reducible rfl); (· exact natL _); (· omega))
             | ((with_reducible apply NW.subN); (· with_reducible rfl); (· exact natL _); (· omega))
             | ((with_reducible apply Cmp.no); · omega)
             | ((with_reducible apply LoadSt.box); · (repeat (exact List.Mem.head _)))
             | ((with_reducible apply LoadSt.boxAgg); · (repeat (exact List.Mem.head _)))
             | ((with_reducible refine AllocSt.mk ?_); intro _b _hb _hbO)
             | ((with_reducible apply DivSt.quoN); (· with_reducible rfl); (· exact natL _); (· omega)))
    refine LoopSt.fix [6, 7, 8, 9, 23, 24, 25, 26, 27, 28, 29, 30, 31, 32, 33, 34, 35, 36, 37, 38, 39, 40, 41, 42, 43, 44, 45, 46, 47, 48, 49] (fun ((k, B) : Nat × Buf) => [(6, .slice B.a k B.cap), (23, iN k)]) (fun (k, B) => B.hp 23 (((splitF e).take k).flatMap frV) ++ ((_b, .cells ⟨enV e⟩ 70 (0, 0)) :: O)) (fun (k, B) => k ≤ partsN e.body.length ∧ B.ok 5 (((splitF e).take k).flatMap frV) k) (fun (k, B) => partsN e.body.length - k) ((0, Buf.nil)) _ (Wk.refl _ _) (rfl) ?_ ?_ ?_
    · repeat' (first | exact True.intro | refine And.intro ?_ ?_ | rfl)
    · exact ⟨Nat.zero_le _, Buf.nil_ok 5⟩
    · rintro ⟨k, B⟩ d ⟨hk, hB⟩
      dsimp only at hk hB ⊢
      by_cases hkn : k < partsN e.body.length
      · have hp4 := hp3 k hkn
        have hst := splitF_take hkn
        repeat' (conv => whnf
                 first
                 | (((with_reducible apply LoadSt.box (l := [.int .i64 e.office, .int .i64 e.no, sV e.body])); (· exact List.mem_append_right _ (List.Mem.head _))))
                 | (((apply AppSt.litm (g := frV) (x := ⟨e.office, e.no, k, partsN e.body.length, (e.body.take (min e.body.length (k * 32 + 32))).drop (k * 32)⟩) (s := 5) (z := .agg ⟨[.int .i64 0, .int .i64 0, .int .i64 0, .int .i64 0, .string ⟨⟨[]⟩⟩]⟩)); (· (repeat (first | with_reducible exact Loc.hd | with_reducible apply Loc.tl))); (· exact hB); (· (repeat (exact List.Mem.head _))); (· rfl); (· rfl); (· rfl); (· rfl); (· rfl); (· rfl); (· rfl); (· (show _ * 48 ≤ _; omega)); (· omega); intro D hD; rw [hst] at hD ⊢))
                 | (with_reducible refine NextSt.mk ?_)
                 | (with_reducible refine OnBB.tt ?_)
                 | ((with_reducible apply NW.addN); (· with_reducible rfl); (· exact natL _); (· omega))
                 | ((with_reducible apply NW.mulN); (· with_reducible rfl); (· exact natL _); (· omega))
                 | ((with_reducible apply Cmp.yes); · omega)
                 | ((with_reducible refine AllocSt.mk ?_); intro _b _hb _hbO)
                 | ((with_reducible apply MinMax.minN); (· with_reducible rfl); (· with_reducible rfl))
                 | ((with_reducible apply StrSl.lohi); (· with_reducible rfl); (· with_reducible rfl); (· (omega)); (· (omega))))
        refine RoundFix.mk ((k + 1, D)) ?_ ?_ _ rfl (Wk.drop (by (try dsimp only); (try simp only [List.cons_append, List.nil_append]); (repeat (first | with_reducible exact List.Sublist.refl _ | with_reducible apply List.Sublist.cons)))) ?_
        · dsimp only; omega
        · repeat' (first | exact True.intro | refine And.intro ?_ ?_ | rfl)
        · exact ⟨by omega, hD⟩
      · have : k = partsN e.body.length := by omega
        subst this
        rw [List.take_of_length_le (by omega)] at hB ⊢
        repeat' (conv => whnf
                 first
                 | (with_reducible refine NextSt.mk ?_)
                 | (with_reducible refine OnBB.ff ?_)
                 | ((with_reducible apply Cmp.no); · omega))
        rw [← hlen] at hB
        refine FinSt.new (H := B.hp 23 ((splitF e).flatMap frV)) (R := FrsR (splitF e) 0) (by (try dsimp only); (try simp only [List.cons_append, List.nil_append]); (repeat (first | with_reducible exact List.Sublist.refl _ | with_reducible apply sub_app | with_reducible apply List.Sublist.cons))) ⟨B, by rw [hlen], rfl, hB⟩
  · rw [show splitV e = ([], 92) from if_neg h1]
    rw [show chkE e = 92 from if_neg h1] at e82
    refine GSpec.enter (fn := Try.f76) Try.func76 rfl (by kernel_rfl) ?_
    repeat' (conv => whnf
             first
             | ((with_reducible refine CallSt.rd (f := 82) (X := .int .i64 92) ?_ ?_); (· exact e82 _ _))
             | (with_reducible refine NextSt.mk ?_)
             | (with_reducible refine OnBB.tt ?_)
             | ((with_reducible apply Cmp.yes); · omega)
             | ((with_reducible apply LoadSt.boxAgg); · (repeat (exact List.Mem.head _)))
             | ((with_reducible refine AllocSt.mk ?_); intro _b _hb _hbO))
    conv => whnf
    refine FinSt.new (H := []) (R := FrsR [] 92) (by (try dsimp only); (try simp only [List.cons_append, List.nil_append]); (repeat (first | with_reducible exact List.Sublist.refl _ | with_reducible apply List.Sublist.cons))) ⟨Buf.nil, rfl, rfl, Buf.nil_ok 5⟩
end Go.Proofs.Ytlbmlimaobkhpaa
/- Books on disks: what taking does. No program in sight. -/
namespace Go.Proofs.Ytlbmlimaobkhpaa
set_option linter.unusedSimpArgs false
set_option linter.unusedVariables false
/-- Of the messages about one number of an office the valid one with the least body. -/
def bst1 (p no : Int) (acc : Option En) (e : En) : Option En :=
  if enOk e ∧ e.office = p ∧ e.no = no then
    match acc with
    | none => some e
    | some o => if Op.bytesLess e.body o.body = true then some e else some o
  else acc
def bst (l : List En) (p no : Int) : Option En := l.foldl (bst1 p no) none
theorem bst_app (l : List En) (e : En) (p no : Int) : bst (l ++ [e]) p no = bst1 p no (bst l p no) e := by
  unfold bst; rw [List.foldl_append]; rfl
theorem bst_ok {l : List En} {p no : Int} : ∀ {e : En}, bst l p no = some e → enOk e ∧ e.office = p ∧ e.no = no := by
  have : ∀ (l : List En) (acc : Option En), (∀ e, acc = some e → enOk e ∧ e.office = p ∧ e.no = no) → ∀ e, l.foldl (bst1 p no) acc = some e → enOk e ∧ e.office = p ∧ e.no = no := by
    intro l
    induction l with
    | nil => exact fun acc h => h
    | cons x l ih =>
      intro acc h
      refine ih _ fun e he => ?_
      unfold bst1 at he
      split at he
      · rename_i hx
        split at he
        · cases he; exact hx
        · split at he
          · cases he; exact hx
          · exact h e he
      · exact h e he
  exact fun {e} => this l none (fun e h => by cases h) e
/-- What a number of an office comes to. -/
structure Tk where
  S : DB
  n : Nat
  err : Int
def takeIn (l : List En) (p : Nat) : Nat → Nat → DB → Nat → Tk
  | 0, _, S, n => ⟨S, n, 0⟩
  | f + 1, no, S, n =>
    if no ≤ (S.2.logs.getD p []).length then
      match bst l p no with
      | some e => if chg S.2.logs e then (if (putV S e).2 = 0 then takeIn l p f (no + 1) (putV S e).1 (n + 1) else ⟨(putV S e).1, 0, (putV S e).2⟩) else takeIn l p f (no + 1) S n
      | none => takeIn l p f (no + 1) S n
    else ⟨S, n, 0⟩
def takeO (l : List En) : Nat → Nat → DB → Nat → Tk
  | 0, _, S, n => ⟨S, n, 0⟩
  | f + 1, p, S, n => if (takeIn l p 66 0 S n).err = 0 then takeO l f (p + 1) (takeIn l p 66 0 S n).S (takeIn l p 66 0 S n).n else takeIn l p 66 0 S n
def takeV (S : DB) (l : List En) : Tk := if downV S then ⟨S, 0, 93⟩ else takeO l S.2.logs.length 0 S 0
theorem takeIn_len (l : List En) (p : Nat) : ∀ f no S n, (takeIn l p f no S n).S.2.logs.length = S.2.logs.length
  | 0, _, _, _ => rfl
  | f + 1, no, S, n => by
    have hp : ∀ e, (putV S e).1.2.logs.length = S.2.logs.length := fun e => by
      unfold putV
      split
      · exact chgd_len _ _
      · rfl
    unfold takeIn
    split
    · split
      · split
        · split
          · rw [takeIn_len l p f, hp]
          · exact hp _
        · exact takeIn_len l p f _ _ _
      · exact takeIn_len l p f _ _ _
    · rfl
theorem takeIn_ok (l : List En) (p : Nat) : ∀ f no S n B, okS B S → okS (B + 20 * f) (takeIn l p f no S n).S
  | 0, _, _, _, _, h => h
  | f + 1, no, S, n, B, h => by
    unfold takeIn
    split
    · split
      · split
        · rename_i hc
          split
          · exact (takeIn_ok l p f _ _ _ _ (h.put hc)).mono (by omega)
          · exact (h.put hc).mono (by omega)
        · exact (takeIn_ok l p f _ _ _ _ h).mono (by omega)
      · exact (takeIn_ok l p f _ _ _ _ h).mono (by omega)
    · exact h.mono (by omega)
theorem takeO_ok (l : List En) : ∀ f p S n B, okS B S → okS (B + 1320 * f) (takeO l f p S n).S
  | 0, _, _, _, _, h => h
  | f + 1, p, S, n, B, h => by
    have h1 := takeIn_ok l p 66 0 S n B h
    unfold takeO
    split
    · exact (takeO_ok l f _ _ _ _ h1).mono (by omega)
    · exact h1.mono (by omega)
theorem takeV_ok {B : Nat} {S : DB} (h : okS B S) (l : List En) : okS (B + 10560) (takeV S l).S := by
  unfold takeV
  split
  · exact h.mono (by omega)
  · exact (takeO_ok l _ 0 S 0 B h).mono (by have := h.wf.len; omega)
end Go.Proofs.Ytlbmlimaobkhpaa
/- The program's books: taking. -/
namespace Go.Proofs.Ytlbmlimaobkhpaa
open Go Go.Gv
set_option maxRecDepth 100000
set_option maxHeartbeats 4000000
set_option linter.unusedSimpArgs false
set_option linter.unusedVariables false

/-! ### the map of the best messages -/
instance (n : Int) : Decidable (i64 n) := by unfold i64; infer_instance
abbrev Key := { p : Int × Int // i64 p.1 ∧ i64 p.2 }
def keyV (k : Key) : Value := .agg ⟨[.int .i64 k.1.1, .int .i64 k.1.2]⟩
theorem keyV_inj (a b : Key) (h : keyV a = keyV b) : a = b := by
  simp [keyV] at h
  exact Subtype.ext (Prod.ext h.1 h.2)
theorem key_of (k : Key) : ∃ l, keyOf Try.prog 154 (keyV k) = some l := by
  have hu : Try.prog.underlying 154 = some (.array 2 3) := by kernel_rfl
  have hu3 : Try.prog.underlying 3 = some (.int .i64) := by kernel_rfl
  have hc : Try.prog.cellsOf 154 = 2 := by kernel_rfl
  have hc3 : Try.prog.cellsOf 3 = 1 := by kernel_rfl
  have hk : Try.prog.keyType 154 = true := by kernel_rfl
  have hl : ∀ d, Try.prog.keyLits (d + 2) 154 [.int .i64 k.1.1, .int .i64 k.1.2] = some [.int .i64 k.1.1, .int .i64 k.1.2] := fun d => by
    simp [Program.keyLits, hu, hu3, hc, hc3, wf_int k.2.1, wf_int k.2.2, List.range, List.range.loop]
  have hs : Try.prog.types.size + 1 = (Try.prog.types.size - 1) + 2 := by
    have : 1 ≤ Try.prog.types.size := by decide +kernel
    omega
  refine ⟨.string (keyBytes [.int .i64 k.1.1, .int .i64 k.1.2]), ?_⟩
  unfold keyOf
  rw [hu]
  simp only [hk, Value.formed, hu, hc, keyV, Bool.true_and, Value.cells]
  rw [hs, hl]
  rfl
theorem keyed154 : Maps.Keyed Try.prog 154 := Maps.Keyed.of_law (deep_law (m := 2) (by omega) (by kernel_rfl) (by kernel_rfl) (by rw [show Try.prog.underlying 154 = some (.array 2 3) from by kernel_rfl]))
def enA (e : En) : Value := .agg ⟨enV e⟩
/-- The map holds the best of the messages seen. -/
structure MapOk (m : List (Key × En)) (l : List En) : Prop where
  keys : akeys m
  best : ∀ k : Key, aget m k = bst l k.1.1 k.1.2
theorem MapOk.nil : MapOk [] [] := ⟨by simp [akeys], fun k => rfl⟩
theorem MapOk.yes {m : List (Key × En)} {l : List En} (h : MapOk m l) {e : En} {q : Key} (hq : q.1 = (e.office, e.no)) (ho : enOk e) (hb : ∀ o, aget m q = some o → Op.bytesLess e.body o.body = true) : MapOk (aput m q e) (l ++ [e]) := by
  refine ⟨h.keys.put _ _, fun k => ?_⟩
  rw [aget_put, bst_app, h.best k]
  unfold bst1
  by_cases hk : q = k
  · subst hk
    have hq1 : e.office = q.1.1 := by rw [hq]
    have hq2 : e.no = q.1.2 := by rw [hq]
    rw [if_pos rfl, if_pos ⟨ho, hq1, hq2⟩, ← h.best q]
    cases hg : aget m q with
    | none => rfl
    | some o => simp only [if_pos (hb o hg)]
  · rw [if_neg hk, if_neg]
    rintro ⟨_, h1, h2⟩
    exact hk (Subtype.ext (by rw [hq, h1, h2]))
theorem MapOk.no {m : List (Key × En)} {l : List En} (h : MapOk m l) {e : En} {q : Key} (hq : q.1 = (e.office, e.no)) (hb : enOk e → ∃ o, aget m q = some o ∧ ¬ Op.bytesLess e.body o.body = true) : MapOk m (l ++ [e]) := by
  refine ⟨h.keys, fun k => ?_⟩
  rw [bst_app, h.best k]
  unfold bst1
  split
  · rename_i hc
    obtain ⟨h1, h2, h3⟩ := hc
    have e1 : q = k := Subtype.ext (by rw [hq, h2, h3])
    subst e1
    obtain ⟨o, ho, hn⟩ := hb h1
    rw [h.best] at ho
    rw [ho]
    simp only [if_neg hn]
  · rfl
theorem zero70 (w : World) : (zeroValue 70).run Try.prog w = .ok (.agg ⟨enV default⟩) w := by
  have : Try.prog.info? 70 = some (Try.prog.types[70]'(by decide +kernel)) := by kernel_rfl
  exact cellsOf_run this (by kernel_rfl) w
/-- What a call leaves of a book, its disk, and the rest. -/
def BRG (r : Dr) (b : Br) (S : DB) (X : Value) (G : Hp) (v : Value) (O' : Hp) : Prop := ∃ r' b', r'.p = r.p ∧ b'.p = b.p ∧ bOk r' S.1 b' S.2 ∧ O' = G ++ bH r' S.1 b' S.2 ∧ v = X
theorem BRG.mk {r : Dr} {b : Br} {S : DB} {X : Value} {G : Hp} {sb wb : Buf} {lp : Nat} {ls : List Lg} (hk : bOk ⟨r.p, sb, wb⟩ S.1 ⟨b.p, lp, ls⟩ S.2) : BRG r b S X G X (G ++ bH ⟨r.p, sb, wb⟩ S.1 ⟨b.p, lp, ls⟩ S.2) := ⟨⟨r.p, sb, wb⟩, ⟨b.p, lp, ls⟩, rfl, rfl, hk, rfl, rfl⟩
theorem f55 (r : Dr) (b : Br) (S : DB) (B : Nat) (l : List En) (a : Option Addr) (cap : Nat) (G : Hp) (hw : ∀ e ∈ l, enW e) (hl : l.length < 1000000) (hS : okS B S) (hB : B + 20000 < 1000000000) (hk : bOk r S.1 b S.2) (h : View) (hr : Rd h G a (l.flatMap enV)) :
    GSpec Try.prog 55 [pP b.p, .slice a l.length cap] h (G ++ bH r S.1 b S.2) (fun v _ O' => BRG r b (takeV S l).S (.tuple ⟨[iN (takeV S l).n, .int .i64 (takeV S l).err]⟩) G v O') := by
  have e109 := fun h => f109g b.p (bkV b) r S.1 S.2.at_ S.2.falls (lgc b :: lgHp b.ls) h
  by_cases h0 : S.2.falls ≠ S.1.falls
  · rw [show takeV S l = ⟨S, 0, 93⟩ from if_pos h0]
    rw [decide_eq_true h0] at e109
    refine GSpec.enter (fn := Try.f55) Try.func55 rfl (by kernel_rfl) ?_
    repeat' (conv => whnf
             first
             | ((with_reducible refine CallSt.rd (f := 109) (X := .bool true) ?_ ?_); (· exact GSpec.locRet (H := bH r S.1 b S.2) (by (repeat (first | with_reducible exact Loc.last | with_reducible apply Loc.skip))) (e109 _)))
             | (with_reducible refine NextSt.mk ?_)
             | (with_reducible refine OnBB.tt ?_))
    refine FinSt.own (R := BRG r b S _ G) (O1 := G ++ bH r S.1 b S.2) (by (try dsimp only); (try simp only [List.cons_append, List.nil_append]); (repeat (with_reducible exact List.Sublist.refl _))) ?_
    exact ⟨_, _, rfl, rfl, hk, rfl, rfl⟩
  · rw [show takeV S l = takeO l S.2.logs.length 0 S 0 from if_neg h0]
    rw [decide_eq_false h0] at e109
    refine GSpec.enter (fn := Try.f55) Try.func55 rfl (by kernel_rfl) ?_
    repeat' (conv => whnf
             first
             | ((with_reducible refine CallSt.rd (f := 109) (X := .bool false) ?_ ?_); (· exact GSpec.locRet (H := bH r S.1 b S.2) (by (repeat (first | with_reducible exact Loc.last | with_reducible apply Loc.skip))) (e109 _)))
             | (with_reducible refine NextSt.mk ?_)
             | (with_reducible refine OnBB.ff ?_)
             | ((with_reducible refine AllocSt.mk ?_); intro _b _hb _hbO))
    obtain ⟨mb, hmb⟩ : ∃ x, x = _b := ⟨_, rfl⟩
    subst hmb
    refine LoopSt.fix [8, 9, 10, 11, 23, 24, 25, 26, 27, 28, 29, 30, 31, 32, 33, 34, 35, 36, 37, 38, 39, 40, 41, 42, 43, 44, 45, 46, 47, 48, 49, 50, 51, 52, 53, 54, 55] (fun ((k, m) : Nat × List (Key × En)) => [(23, iN k)]) (fun (k, m) => (mb, mapObj keyV enA m) :: (G ++ bH r S.1 b S.2)) (fun (k, m) => k ≤ l.length ∧ MapOk m (l.take k)) (fun (k, m) => l.length - k) ((0, [])) _ (Wk.refl _ _) (rfl) ?_ ?_ ?_
    · repeat' (first | exact True.intro | refine And.intro ?_ ?_ | rfl)
    · exact ⟨Nat.zero_le _, MapOk.nil⟩
    · rintro ⟨k, m⟩ d ⟨hk1, hm⟩
      dsimp only at hk1 hm ⊢
      by_cases hkl : k < l.length
      · have hen := hw _ (getD_mem (d := default) hkl)
        have hts := take_succ (d := default) hkl
        obtain ⟨e, he⟩ : ∃ e, l.getD k default = e := ⟨_, rfl⟩
        rw [he] at hen hts
        obtain ⟨q, hq⟩ : ∃ q : Key, q = ⟨(e.office, e.no), hen.1, hen.2.1⟩ := ⟨_, rfl⟩
        have e82 := fun h O => f82 e hen.2.2 h O
        by_cases ho : enOk e
        · rw [show chkE e = 0 from if_pos ho] at e82
          cases hg : aget m q with
          | none =>
            subst hq
            repeat' (conv => whnf
                     first
                     | (((with_reducible apply LoadSt.rdg (g := enV) (s := 3)); (· rfl); (· (repeat (first | (with_reducible apply Rd.appL; with_reducible assumption) | with_reducible apply Rd.cons))); (· exact fun _ => rfl); (· decide); (· (omega)); rw [he]))
                     | (((apply LookSt.own (g := keyV) (v := enA) (l := m) (k := ⟨(e.office, e.no), hen.1, hen.2.1⟩) (z := .agg ⟨enV default⟩)); (· (repeat (first | exact List.Mem.head _ | with_reducible apply List.mem_cons_of_mem))); (· rfl); (· exact keyed154); (· exact key_of); (· exact keyV_inj); (· exact hm.keys); (· rfl); (· exact zero70); (· intro x hx; rw [hg] at hx; cases hx); intro _))
                     | ((with_reducible refine CallSt.rd (f := 82) (X := .int .i64 0) ?_ ?_); (· exact e82 _ _))
                     | (((apply MapUp.own (g := keyV) (v := enA) (l := m) (k := ⟨(e.office, e.no), hen.1, hen.2.1⟩) (x := e)); (· (repeat (first | with_reducible exact Loc.one | with_reducible apply Loc.tl))); (· rfl); (· exact keyed154); (· exact key_of); (· exact keyV_inj); (· exact hm.keys); (· rfl); (· rfl)))
                     | ((with_reducible apply IdxSl.rdg (g := enV) (s := 3)); (· with_reducible assumption); (· exact fun _ => rfl); (· decide); (· rfl); (· with_reducible rfl); (· (omega)); · (omega))
                     | (with_reducible refine NextSt.mk ?_)
                     | (with_reducible refine OnBB.tt ?_)
                     | (with_reducible refine OnBB.ff ?_)
                     | ((with_reducible apply NW.addN); (· with_reducible rfl); (· exact natL _); (· omega))
                     | ((with_reducible apply Cmp.yes); · omega)
                     | ((with_reducible apply LoadSt.box); · (repeat (exact List.Mem.head _)))
                     | ((with_reducible apply LoadSt.boxAgg); · (repeat (first | exact List.Mem.head _ | with_reducible apply List.mem_cons_of_mem)))
                     | ((with_reducible refine AllocSt.mk ?_); intro _b _hb _hbO)
                     | ((with_reducible apply StoreSt.box); (· (repeat (exact Upd.hd))); (· rfl); (· rfl); (· rfl)))
            refine RoundFix.mk ((k + 1, aput m _ e)) ?_ ?_ _ rfl (Wk.drop (by (try dsimp only); (try simp only [List.cons_append, List.nil_append]); (repeat (first | with_reducible exact List.Sublist.refl _ | with_reducible apply List.Sublist.cons)))) ?_
            · dsimp only; omega
            · repeat' (first | exact True.intro | refine And.intro ?_ ?_ | rfl)
            · exact ⟨by omega, by rw [hts]; exact hm.yes rfl ho (fun o h => by rw [hg] at h; cases h)⟩
          | some o =>
            by_cases hb : Op.bytesLess e.body o.body = true
            · subst hq
              repeat' (conv => whnf
                       first
                       | (((with_reducible apply LoadSt.rdg (g := enV) (s := 3)); (· rfl); (· (repeat (first | (with_reducible apply Rd.appL; with_reducible assumption) | with_reducible apply Rd.cons))); (· exact fun _ => rfl); (· decide); (· (omega)); rw [he]))
                       | (((apply LookSt.own (g := keyV) (v := enA) (l := m) (k := ⟨(e.office, e.no), hen.1, hen.2.1⟩) (z := .agg ⟨enV default⟩)); (· (repeat (first | exact List.Mem.head _ | with_reducible apply List.mem_cons_of_mem))); (· rfl); (· exact keyed154); (· exact key_of); (· exact keyV_inj); (· exact hm.keys); (· rfl); (· exact zero70); rotate_left; (· intro hx; rw [hg] at hx; cases hx); intro x hx; rw [hg] at hx; cases hx))
                       | ((with_reducible refine CallSt.rd (f := 82) (X := .int .i64 0) ?_ ?_); (· exact e82 _ _))
                       | (((apply MapUp.own (g := keyV) (v := enA) (l := m) (k := ⟨(e.office, e.no), hen.1, hen.2.1⟩) (x := e)); (· (repeat (first | with_reducible exact Loc.one | with_reducible apply Loc.tl))); (· rfl); (· exact keyed154); (· exact key_of); (· exact keyV_inj); (· exact hm.keys); (· rfl); (· rfl)))
                       | ((with_reducible apply IdxSl.rdg (g := enV) (s := 3)); (· with_reducible assumption); (· exact fun _ => rfl); (· decide); (· rfl); (· with_reducible rfl); (· (omega)); · (omega))
                       | (with_reducible refine NextSt.mk ?_)
                       | (with_reducible refine OnBB.tt ?_)
                       | (with_reducible refine OnBB.ff ?_)
                       | ((with_reducible apply NW.addN); (· with_reducible rfl); (· exact natL _); (· omega))
                       | ((with_reducible apply Cmp.yes); · omega)
                       | ((with_reducible apply LoadSt.box); · (repeat (first | exact List.Mem.head _ | with_reducible apply List.mem_cons_of_mem)))
                       | ((with_reducible apply LoadSt.boxAgg); · (repeat (first | exact List.Mem.head _ | with_reducible apply List.mem_cons_of_mem)))
                       | ((with_reducible refine AllocSt.mk ?_); intro _b _hb _hbO)
                       | ((with_reducible apply StoreSt.box); (· (repeat (exact Upd.hd))); (· rfl); (· rfl); (· rfl)))
              refine RoundFix.mk ((k + 1, aput m _ e)) ?_ ?_ _ rfl (Wk.drop (by (try dsimp only); (try simp only [List.cons_append, List.nil_append]); (repeat (first | with_reducible exact List.Sublist.refl _ | with_reducible apply List.Sublist.cons)))) ?_
              · dsimp only; omega
              · repeat' (first | exact True.intro | refine And.intro ?_ ?_ | rfl)
              · exact ⟨by omega, by rw [hts]; exact hm.yes rfl ho (fun o h => by rw [hg] at h; cases h; exact hb)⟩
            · subst hq
              repeat' (conv => whnf
                       first
                       | (((with_reducible apply LoadSt.rdg (g := enV) (s := 3)); (· rfl); (· (repeat (first | (with_reducible apply Rd.appL; with_reducible assumption) | with_reducible apply Rd.cons))); (· exact fun _ => rfl); (· decide); (· (omega)); rw [he]))
                       | (((apply LookSt.own (g := keyV) (v := enA) (l := m) (k := ⟨(e.office, e.no), hen.1, hen.2.1⟩) (z := .agg ⟨enV default⟩)); (· (repeat (first | exact List.Mem.head _ | with_reducible apply List.mem_cons_of_mem))); (· rfl); (· exact keyed154); (· exact key_of); (· exact keyV_inj); (· exact hm.keys); (· rfl); (· exact zero70); rotate_left; (· intro hx; rw [hg] at hx; cases hx); intro x hx; rw [hg] at hx; cases hx))
                       | ((with_reducible refine CallSt.rd (f := 82) (X := .int .i64 0) ?_ ?_); (· exact e82 _ _))
                       | ((with_reducible apply IdxSl.rdg (g := enV) (s := 3)); (· with_reducible assumption); (· exact fun _ => rfl); (· decide); (· rfl); (· with_reducible rfl); (· (omega)); · (omega))
                       | (with_reducible refine NextSt.mk ?_)
                       | (with_reducible refine OnBB.tt ?_)
                       | (with_reducible refine OnBB.ff ?_)
                       | ((with_reducible apply NW.addN); (· with_reducible rfl); (· exact natL _); (· omega))
                       | ((with_reducible apply Cmp.yes); · omega)
                       | ((with_reducible apply Cmp.no); · omega)
                       | ((with_reducible apply LoadSt.box); · (repeat (first | exact List.Mem.head _ | with_reducible apply List.mem_cons_of_mem)))
                       | ((with_reducible apply LoadSt.boxAgg); · (repeat (first | exact List.Mem.head _ | with_reducible apply List.mem_cons_of_mem)))
                       | ((with_reducible refine AllocSt.mk ?_); intro _b _hb _hbO)
                       | ((with_reducible apply StoreSt.box); (· (repeat (exact Upd.hd))); (· rfl); (· rfl); (· rfl)))
              refine RoundFix.mk ((k + 1, m)) ?_ ?_ _ rfl (Wk.drop (by (try dsimp only); (try simp only [List.cons_append, List.nil_append]); (repeat (first | with_reducible exact List.Sublist.refl _ | with_reducible apply List.Sublist.cons)))) ?_
              · dsimp only; omega
              · repeat' (first | exact True.intro | refine And.intro ?_ ?_ | rfl)
              · exact ⟨by omega, by rw [hts]; exact hm.no (q := ⟨(e.office, e.no), hen.1, hen.2.1⟩) rfl (fun _ => ⟨o, hg, hb⟩)⟩
        · rw [show chkE e = 92 from if_neg ho] at e82
          cases hg : aget m q with
          | none =>
            subst hq
            repeat' (conv => whnf
                     first
                     | (((with_reducible apply LoadSt.rdg (g := enV) (s := 3)); (· rfl); (· (repeat (first | (with_reducible apply Rd.appL; with_reducible assumption) | with_reducible apply Rd.cons))); (· exact fun _ => rfl); (· decide); (· (omega)); rw [he]))
                     | (((apply LookSt.own (g := keyV) (v := enA) (l := m) (k := ⟨(e.office, e.no), hen.1, hen.2.1⟩) (z := .agg ⟨enV default⟩)); (· (repeat (first | exact List.Mem.head _ | with_reducible apply List.mem_cons_of_mem))); (· rfl); (· exact keyed154); (· exact key_of); (· exact keyV_inj); (· exact hm.keys); (· rfl); (· exact zero70); (· intro x hx; rw [hg] at hx; cases hx); intro _))
                     | ((with_reducible refine CallSt.rd (f := 82) (X := .int .i64 92) ?_ ?_); (· exact e82 _ _))
                     | ((with_reducible apply IdxSl.rdg (g := enV) (s := 3)); (· with_reducible assumption); (· exact fun _ => rfl); (· decide); (· rfl); (· with_reducible rfl); (· (omega)); · (omega))
                     | (with_reducible refine NextSt.mk ?_)
                     | (with_reducible refine OnBB.tt ?_)
                     | (with_reducible refine OnBB.ff ?_)
                     | ((with_reducible apply NW.addN); (· with_reducible rfl); (· exact natL _); (· omega))
                     | ((with_reducible apply Cmp.yes); · omega)
                     | ((with_reducible apply Cmp.no); · omega)
                     | ((with_reducible apply LoadSt.box); · (repeat (exact List.Mem.head _)))
                     | ((with_reducible apply LoadSt.boxAgg); · (repeat (first | exact List.Mem.head _ | with_reducible apply List.mem_cons_of_mem)))
                     | ((with_reducible refine AllocSt.mk ?_); intro _b _hb _hbO)
                     | ((with_reducible apply StoreSt.box); (· (repeat (exact Upd.hd))); (· rfl); (· rfl); (· rfl)))
            refine RoundFix.mk ((k + 1, m)) ?_ ?_ _ rfl (Wk.drop (by (try dsimp only); (try simp only [List.cons_append, List.nil_append]); (repeat (first | with_reducible exact List.Sublist.refl _ | with_reducible apply List.Sublist.cons)))) ?_
            · dsimp only; omega
            · repeat' (first | exact True.intro | refine And.intro ?_ ?_ | rfl)
            · exact ⟨by omega, by rw [hts]; exact hm.no (q := ⟨(e.office, e.no), hen.1, hen.2.1⟩) rfl (fun h => absurd h ho)⟩
          | some o =>
            subst hq
            repeat' (conv => whnf
                     first
                     | (((with_reducible apply LoadSt.rdg (g := enV) (s := 3)); (· rfl); (· (repeat (first | (with_reducible apply Rd.appL; with_reducible assumption) | with_reducible apply Rd.cons))); (· exact fun _ => rfl); (· decide); (· (omega)); rw [he]))
                     | (((apply LookSt.own (g := keyV) (v := enA) (l := m) (k := ⟨(e.office, e.no), hen.1, hen.2.1⟩) (z := .agg ⟨enV default⟩)); (· (repeat (first | exact List.Mem.head _ | with_reducible apply List.mem_cons_of_mem))); (· rfl); (· exact keyed154); (· exact key_of); (· exact keyV_inj); (· exact hm.keys); (· rfl); (· exact zero70); rotate_left; (· intro hx; rw [hg] at hx; cases hx); intro x hx; rw [hg] at hx; cases hx))
                     | ((with_reducible refine CallSt.rd (f := 82) (X := .int .i64 92) ?_ ?_); (· exact e82 _ _))
                     | ((with_reducible apply IdxSl.rdg (g := enV) (s := 3)); (· with_reducible assumption); (· exact fun _ => rfl); (· decide); (· rfl); (· with_reducible rfl); (· (omega)); · (omega))
                     | (with_reducible refine NextSt.mk ?_)
                     | (with_reducible refine OnBB.tt ?_)
                     | (with_reducible refine OnBB.ff ?_)
                     | ((with_reducible apply NW.addN); (· with_reducible rfl); (· exact natL _); (· omega))
                     | ((with_reducible apply Cmp.yes); · omega)
                     | ((with_reducible apply Cmp.no); · omega)
                     | ((with_reducible apply LoadSt.box); · (repeat (exact List.Mem.head _)))
                     | ((with_reducible apply LoadSt.boxAgg); · (repeat (first | exact List.Mem.head _ | with_reducible apply List.mem_cons_of_mem)))
                     | ((with_reducible refine AllocSt.mk ?_); intro _b _hb _hbO)
                     | ((with_reducible apply StoreSt.box); (· (repeat (exact Upd.hd))); (· rfl); (· rfl); (· rfl)))
            refine RoundFix.mk ((k + 1, m)) ?_ ?_ _ rfl (Wk.drop (by (try dsimp only); (try simp only [List.cons_append, List.nil_append]); (repeat (first | with_reducible exact List.Sublist.refl _ | with_reducible apply List.Sublist.cons)))) ?_
            · dsimp only; omega
            · repeat' (first | exact True.intro | refine And.intro ?_ ?_ | rfl)
            · exact ⟨by omega, by rw [hts]; exact hm.no (q := ⟨(e.office, e.no), hen.1, hen.2.1⟩) rfl (fun h => absurd h ho)⟩
      · have : k = l.length := by omega
        subst this
        rw [List.take_length] at hm
        have hN : b.ls.length = S.2.logs.length := by rw [← hk.logs, logs_len]
        have hN8 := hS.wf.len
        repeat' (conv => whnf
                 first
                 | (with_reducible refine NextSt.mk ?_)
                 | (with_reducible refine OnBB.ff ?_)
                 | ((with_reducible apply Cmp.no); · omega)
                 | ((with_reducible apply LoadSt.box); · (repeat (first | exact List.Mem.head _ | with_reducible apply List.mem_append_right | with_reducible apply List.mem_cons_of_mem))))
        refine LoopSt.fix [4, 5, 12, 13, 14, 15, 16, 17, 61, 62, 63, 64, 65, 66, 67, 68, 69, 70, 71, 72, 73, 74, 75, 76, 77, 78, 79, 80, 81, 82, 83, 84, 85, 86, 87, 88, 89, 90, 91, 92, 93, 94, 95, 96, 97, 98, 99, 100] (fun ((p, S', n, sb, wb, lp, ls) : Nat × DB × Nat × Buf × Buf × Nat × List Lg) => [(12, iN n), (61, iN p)]) (fun (p, S', n, sb, wb, lp, ls) => (mb, mapObj keyV enA m) :: (G ++ bH ⟨r.p, sb, wb⟩ S'.1 ⟨b.p, lp, ls⟩ S'.2)) (fun (p, S', n, sb, wb, lp, ls) => p ≤ S.2.logs.length ∧ takeO l (S.2.logs.length - p) p S' n = takeO l S.2.logs.length 0 S 0 ∧ okS (B + 1320 * p) S' ∧ S'.2.logs.length = S.2.logs.length ∧ n ≤ 66 * p ∧ bOk ⟨r.p, sb, wb⟩ S'.1 ⟨b.p, lp, ls⟩ S'.2) (fun (p, _) => S.2.logs.length - p) ((0, S, 0, r.sb, r.wb, b.lp, b.ls)) _ (Wk.refl _ _) (rfl) ?_ ?_ ?_
        · repeat' (first | exact True.intro | refine And.intro ?_ ?_ | rfl)
        · exact ⟨Nat.zero_le _, rfl, hS, rfl, Nat.zero_le _, hk⟩
        · rintro ⟨p, S1, n1, sb1, wb1, lp1, ls1⟩ d ⟨hp, hto, hS1, hN1, hn1, hk1'⟩
          dsimp only at hp hto hS1 hN1 hn1 hk1' ⊢
          by_cases hpN : p < S.2.logs.length
          · obtain ⟨f, hf⟩ : ∃ f, S.2.logs.length - p = f + 1 := ⟨S.2.logs.length - p - 1, by omega⟩
            rw [hf] at hto
            rw [← hto]
            repeat' (conv => whnf
                     first
                     | (with_reducible refine NextSt.mk ?_)
                     | (with_reducible refine OnBB.tt ?_)
                     | ((with_reducible apply Cmp.yes); · omega))
            refine LoopSt.fix [4, 5, 12, 14, 15, 16, 17, 64, 65, 66, 67, 68, 69, 70, 71, 72, 73, 74, 75, 76, 77, 78, 79, 80, 81, 82, 83, 84, 85, 86, 87, 88, 89, 90, 91, 92, 93, 94, 95, 96, 97, 98, 99] (fun ((no, S', n, sb, wb, lp, ls) : Nat × DB × Nat × Buf × Buf × Nat × List Lg) => [(12, iN n), (14, iN no)]) (fun (no, S', n, sb, wb, lp, ls) => (mb, mapObj keyV enA m) :: (G ++ bH ⟨r.p, sb, wb⟩ S'.1 ⟨b.p, lp, ls⟩ S'.2)) (fun (no, S', n, sb, wb, lp, ls) => no ≤ 66 ∧ takeIn l p (66 - no) no S' n = takeIn l p 66 0 S1 n1 ∧ okS (B + 1320 * p + 20 * no) S' ∧ S'.2.logs.length = S.2.logs.length ∧ n ≤ 66 * p + no ∧ bOk ⟨r.p, sb, wb⟩ S'.1 ⟨b.p, lp, ls⟩ S'.2) (fun (no, _) => 66 - no) ((0, S1, n1, sb1, wb1, lp1, ls1)) _ (Wk.refl _ _) (rfl) ?_ ?_ ?_
            · repeat' (first | exact True.intro | refine And.intro ?_ ?_ | rfl)
            · exact ⟨Nat.zero_le _, rfl, hS1, hN1, by omega, hk1'⟩
            · rintro ⟨no, S2, n2, sb, wb, lp, ls⟩ d ⟨hno, hti, hS2, hN2, hn2, hk2⟩
              dsimp only at hno hti hS2 hN2 hn2 hk2 ⊢
              have hlg2 := hk2.logs
              have hls : ls.length = S.2.logs.length := by rw [← hN2, ← hlg2, logs_len]
              have hg : S2.2.logs.getD p [] = (ls.getD p default).2 := by rw [← hlg2]; exact logs_get (b := ⟨b.p, lp, ls⟩) (by show p < ls.length; omega)
              have hlen := hS2.wf.log p (by omega)
              rw [hg] at hlen
              by_cases hlt : no ≤ (ls.getD p default).2.length
              · obtain ⟨g, hgf⟩ : ∃ g, 66 - no = g + 1 := ⟨66 - no - 1, by omega⟩
                have hg2 : 66 - (no + 1) = g := by omega
                rw [hgf, takeIn, hg, if_pos hlt] at hti
                have hkp : i64 (p : Int) := ⟨by omega, by omega⟩
                have hkn : i64 (no : Int) := ⟨by omega, by omega⟩
                have hget := hm.best ⟨((p : Int), (no : Int)), hkp, hkn⟩
                simp only at hget
                cases hb : bst l p no with
                | none =>
                  rw [hb] at hget hti
                  repeat' (conv => whnf
                           first
                           | (((with_reducible apply LoadSt.ownd (g := slV)); (· (repeat (first | exact List.Mem.head _ | with_reducible apply List.mem_append_right | with_reducible apply List.mem_cons_of_mem))); (· (exact Nat.zero_add _)); (· ((simp only [List.length_map, List.length_append, List.length_cons, List.length_nil, List.length_take, List.length_drop, List.length_replicate, List.length_set] at *; omega)))))
                           | (((apply LookSt.own (g := keyV) (v := enA) (l := m) (k := ⟨((p : Int), (no : Int)), hkp, hkn⟩) (z := .agg ⟨enV default⟩)); (· (repeat (exact List.Mem.head _))); (· rfl); (· exact keyed154); (· exact key_of); (· exact keyV_inj); (· exact hm.keys); (· rfl); (· exact zero70); (· intro x hx; rw [hget] at hx; cases hx); intro _))
                           | (with_reducible refine NextSt.mk ?_)
                           | (with_reducible refine OnBB.tt ?_)
                           | (with_reducible refine OnBB.ff ?_)
                           | ((with_reducible apply NW.addN); (· with_reducible rfl); (· exact natL _); (· omega))
                           | ((with_reducible apply LoadSt.box); · (repeat (first | exact List.Mem.head _ | with_reducible apply List.mem_append_right | with_reducible apply List.mem_cons_of_mem)))
                           | ((with_reducible refine AllocSt.mk ?_); intro _b _hb _hbO)
                           | ((with_reducible apply StoreSt.box); (· (repeat (exact Upd.hd))); (· rfl); (· rfl); (· rfl))
                           | ((with_reducible apply IdxSl.own1); (· rfl); (· with_reducible rfl); · ((simp only [List.length_map, List.length_append, List.length_cons, List.length_nil, List.length_take, List.length_drop, List.length_replicate, List.length_set] at *; omega)))
                           | ((with_reducible apply Cmp.yes); · (dsimp only; omega)))
                  refine RoundFix.mk ((no + 1, S2, n2, sb, wb, lp, ls)) ?_ ?_ _ rfl (Wk.drop (by (try dsimp only); (try simp only [List.cons_append, List.nil_append]); (repeat (first | with_reducible exact List.Sublist.refl _ | with_reducible apply List.Sublist.cons)))) ?_
                  · dsimp only; omega
                  · repeat' (first | exact True.intro | refine And.intro ?_ ?_ | rfl)
                  · refine ⟨by omega, by rw [hg2]; exact hti, hS2.mono ?_, hN2, ?_, hk2⟩ <;> (dsimp only; omega)
                | some e =>
                  rw [hb] at hget hti
                  have hok := bst_ok hb
                  have e110 := fun h => f110 ⟨b.p, lp, ls⟩ r.p S2.2.at_ S2.2.falls e (by rw [hlg2]; exact hS2.wf) hk2.ls hok.1.w.2.2 h
                  rw [hlg2] at e110
                  by_cases hc : chg S2.2.logs e
                  · rw [decide_eq_true hc] at e110
                    have e111 := fun h => f111 ⟨r.p, sb, wb⟩ ⟨b.p, lp, ls⟩ S2 _ e hS2 (by omega) hk2 hc h
                    have hS3 := hS2.put hc
                    simp only [if_pos hc] at hti
                    by_cases hz : (putV S2 e).2 = 0
                    · rw [if_pos hz] at hti
                      repeat' (conv => whnf
                               first
                               | (((with_reducible apply LoadSt.ownd (g := slV)); (· (repeat (first | exact List.Mem.head _ | with_reducible apply List.mem_append_right | with_reducible apply List.mem_cons_of_mem))); (· (exact Nat.zero_add _)); (· ((simp only [List.length_map, List.length_append, List.length_cons, List.length_nil, List.length_take, List.length_drop, List.length_replicate, List.length_set] at *; omega)))))
                               | (((apply LookSt.own (g := keyV) (v := enA) (l := m) (k := ⟨((p : Int), (no : Int)), hkp, hkn⟩) (z := .agg ⟨enV default⟩)); (· (repeat (exact List.Mem.head _))); (· rfl); (· exact keyed154); (· exact key_of); (· exact keyV_inj); (· exact hm.keys); (· rfl); (· exact zero70); rotate_left; (· intro hx; rw [hget] at hx; cases hx); intro x hx; rw [hget] at hx; cases hx))
                               | ((with_reducible refine CallSt.rd (f := 110) (X := .bool true) ?_ ?_); (· exact GSpec.locRet (H := bkc b.p (bkV ⟨b.p, lp, ls⟩) r.p S2.2.at_ S2.2.falls :: lgc ⟨b.p, lp, ls⟩ :: lgHp ls) (by (repeat (first | with_reducible exact Loc.last | with_reducible apply Loc.tl | with_reducible apply Loc.skip))) (e110 _)))
                               | ((with_reducible apply CallSt.loc (f := 111) (H := bH ⟨r.p, sb, wb⟩ S2.1 ⟨b.p, lp, ls⟩ S2.2) (R := BR ⟨r.p, sb, wb⟩ ⟨b.p, lp, ls⟩ (putV S2 e).1 (.int .i64 (putV S2 e).2))); (· (repeat (first | with_reducible exact Loc.last | with_reducible apply Loc.tl | with_reducible apply Loc.skip))); (· exact e111 _); rintro _ _ ⟨⟨rp, sb', wb'⟩, ⟨bp, lp', ls'⟩, hr1, hb1, hk3, rfl, rfl⟩; (obtain rfl : rp = r.p := hr1); (obtain rfl : bp = b.p := hb1))
                               | (with_reducible refine NextSt.mk ?_)
                               | (with_reducible refine OnBB.tt ?_)
                               | (with_reducible refine OnBB.ff ?_)
                               | ((with_reducible apply NW.addN); (· with_reducible rfl); (· exact natL _); (· omega))
                               | ((with_reducible apply Cmp.no); · omega)
                               | ((with_reducible apply LoadSt.box); · (repeat (first | exact List.Mem.head _ | with_reducible apply List.mem_append_right | with_reducible apply List.mem_cons_of_mem)))
                               | ((with_reducible apply LoadSt.boxAgg); · (repeat (exact List.Mem.head _)))
                               | ((with_reducible refine AllocSt.mk ?_); intro _b _hb _hbO)
                               | ((with_reducible apply StoreSt.box); (· (repeat (exact Upd.hd))); (· rfl); (· rfl); (· rfl))
                               | ((with_reducible apply IdxSl.own1); (· rfl); (· with_reducible rfl); · ((simp only [List.length_map, List.length_append, List.length_cons, List.length_nil, List.length_take, List.length_drop, List.length_replicate, List.length_set] at *; omega)))
                               | ((with_reducible apply Cmp.yes); · (dsimp only; omega)))
                      refine RoundFix.mk ((no + 1, (putV S2 e).1, n2 + 1, sb', wb', lp', ls')) ?_ ?_ _ rfl (Wk.drop (by (try dsimp only); (try simp only [List.cons_append, List.nil_append]); (repeat (first | with_reducible exact List.Sublist.refl _ | with_reducible apply List.Sublist.cons)))) ?_
                      · dsimp only; omega
                      · repeat' (first | exact True.intro | refine And.intro ?_ ?_ | rfl)
                      · refine ⟨by omega, by rw [hg2]; exact hti, hS3.mono ?_, ?_, ?_, hk3⟩
                        · dsimp only; omega
                        · rw [← hN2]; exact putV_len _ _
                        · dsimp only; omega
                    · rw [if_neg hz] at hti
                      repeat' (conv => whnf
                               first
                               | (((with_reducible apply LoadSt.ownd (g := slV)); (· (repeat (first | exact List.Mem.head _ | with_reducible apply List.mem_append_right | with_reducible apply List.mem_cons_of_mem))); (· (exact Nat.zero_add _)); (· ((simp only [List.length_map, List.length_append, List.length_cons, List.length_nil, List.length_take, List.length_drop, List.length_replicate, List.length_set] at *; omega)))))
                               | (((apply LookSt.own (g := keyV) (v := enA) (l := m) (k := ⟨((p : Int), (no : Int)), hkp, hkn⟩) (z := .agg ⟨enV default⟩)); (· (repeat (exact List.Mem.head _))); (· rfl); (· exact keyed154); (· exact key_of); (· exact keyV_inj); (· exact hm.keys); (· rfl); (· exact zero70); rotate_left; (· intro hx; rw [hget] at hx; cases hx); intro x hx; rw [hget] at hx; cases hx))
                               | ((with_reducible refine CallSt.rd (f := 110) (X := .bool true) ?_ ?_); (· exact GSpec.locRet (H := bkc b.p (bkV ⟨b.p, lp, ls⟩) r.p S2.2.at_ S2.2.falls :: lgc ⟨b.p, lp, ls⟩ :: lgHp ls) (by (repeat (first | with_reducible exact Loc.last | with_reducible apply Loc.tl | with_reducible apply Loc.skip))) (e110 _)))
                               | ((with_reducible apply CallSt.loc (f := 111) (H := bH ⟨r.p, sb, wb⟩ S2.1 ⟨b.p, lp, ls⟩ S2.2) (R := BR ⟨r.p, sb, wb⟩ ⟨b.p, lp, ls⟩ (putV S2 e).1 (.int .i64 (putV S2 e).2))); (· (repeat (first | with_reducible exact Loc.last | with_reducible apply Loc.tl | with_reducible apply Loc.skip))); (· exact e111 _); rintro _ _ ⟨⟨rp, sb', wb'⟩, ⟨bp, lp', ls'⟩, hr1, hb1, hk3, rfl, rfl⟩; (obtain rfl : rp = r.p := hr1); (obtain rfl : bp = b.p := hb1))
                               | (with_reducible refine NextSt.mk ?_)
                               | (with_reducible refine OnBB.tt ?_)
                               | (with_reducible refine OnBB.ff ?_)
                               | ((with_reducible apply Cmp.yes); · omega)
                               | ((with_reducible apply LoadSt.box); · (repeat (first | exact List.Mem.head _ | with_reducible apply List.mem_append_right | with_reducible apply List.mem_cons_of_mem)))
                               | ((with_reducible apply LoadSt.boxAgg); · (repeat (exact List.Mem.head _)))
                               | ((with_reducible refine AllocSt.mk ?_); intro _b _hb _hbO)
                               | ((with_reducible apply StoreSt.box); (· (repeat (exact Upd.hd))); (· rfl); (· rfl); (· rfl))
                               | ((with_reducible apply IdxSl.own1); (· rfl); (· with_reducible rfl); · ((simp only [List.length_map, List.length_append, List.length_cons, List.length_nil, List.length_take, List.length_drop, List.length_replicate, List.length_set] at *; omega)))
                               | ((with_reducible apply Cmp.yes); · (dsimp only; omega)))
                      rw [show takeO l (f + 1) p S1 n1 = ⟨(putV S2 e).1, 0, (putV S2 e).2⟩ from by rw [takeO, ← hti, if_neg hz]]
                      refine FinSt.own (R := BRG r b (putV S2 e).1 _ G) (O1 := G ++ bH ⟨r.p, sb', wb'⟩ (putV S2 e).1.1 ⟨b.p, lp', ls'⟩ (putV S2 e).1.2) (by (try dsimp only); (try simp only [List.cons_append, List.nil_append]); (repeat (first | with_reducible exact List.Sublist.refl _ | with_reducible apply List.Sublist.cons))) ?_
                      exact BRG.mk hk3
                  · rw [decide_eq_false hc] at e110
                    simp only [if_neg hc] at hti
                    repeat' (conv => whnf
                             first
                             | (((with_reducible apply LoadSt.ownd (g := slV)); (· (repeat (first | exact List.Mem.head _ | with_reducible apply List.mem_append_right | with_reducible apply List.mem_cons_of_mem))); (· (exact Nat.zero_add _)); (· ((simp only [List.length_map, List.length_append, List.length_cons, List.length_nil, List.length_take, List.length_drop, List.length_replicate, List.length_set] at *; omega)))))
                             | (((apply LookSt.own (g := keyV) (v := enA) (l := m) (k := ⟨((p : Int), (no : Int)), hkp, hkn⟩) (z := .agg ⟨enV default⟩)); (· (repeat (exact List.Mem.head _))); (· rfl); (· exact keyed154); (· exact key_of); (· exact keyV_inj); (· exact hm.keys); (· rfl); (· exact zero70); rotate_left; (· intro hx; rw [hget] at hx; cases hx); intro x hx; rw [hget] at hx; cases hx))
                             | ((with_reducible refine CallSt.rd (f := 110) (X := .bool false) ?_ ?_); (· exact GSpec.locRet (H := bkc b.p (bkV ⟨b.p, lp, ls⟩) r.p S2.2.at_ S2.2.falls :: lgc ⟨b.p, lp, ls⟩ :: lgHp ls) (by (repeat (first | with_reducible exact Loc.last | with_reducible apply Loc.tl | with_reducible apply Loc.skip))) (e110 _)))
                             | (with_reducible refine NextSt.mk ?_)
                             | (with_reducible refine OnBB.tt ?_)
                             | (with_reducible refine OnBB.ff ?_)
                             | ((with_reducible apply NW.addN); (· with_reducible rfl); (· exact natL _); (· omega))
                             | ((with_reducible apply LoadSt.box); · (repeat (first | exact List.Mem.head _ | with_reducible apply List.mem_append_right | with_reducible apply List.mem_cons_of_mem)))
                             | ((with_reducible apply LoadSt.boxAgg); · (repeat (exact List.Mem.head _)))
                             | ((with_reducible refine AllocSt.mk ?_); intro _b _hb _hbO)
                             | ((with_reducible apply StoreSt.box); (· (repeat (exact Upd.hd))); (· rfl); (· rfl); (· rfl))
                             | ((with_reducible apply IdxSl.own1); (· rfl); (· with_reducible rfl); · ((simp only [List.length_map, List.length_append, List.length_cons, List.length_nil, List.length_take, List.length_drop, List.length_replicate, List.length_set] at *; omega)))
                             | ((with_reducible apply Cmp.yes); · (dsimp only; omega)))
                    refine RoundFix.mk ((no + 1, S2, n2, sb, wb, lp, ls)) ?_ ?_ _ rfl (Wk.drop (by (try dsimp only); (try simp only [List.cons_append, List.nil_append]); (repeat (first | with_reducible exact List.Sublist.refl _ | with_reducible apply List.Sublist.cons)))) ?_
                    · dsimp only; omega
                    · repeat' (first | exact True.intro | refine And.intro ?_ ?_ | rfl)
                    · refine ⟨by omega, by rw [hg2]; exact hti, hS2.mono ?_, hN2, ?_, hk2⟩ <;> (dsimp only; omega)
              · have hti2 : (⟨S2, n2, 0⟩ : Tk) = takeIn l p 66 0 S1 n1 := by
                  rw [← hti]
                  cases 66 - no with
                  | zero => rfl
                  | succ g => rw [takeIn, hg, if_neg hlt]
                repeat' (conv => whnf
                         first
                         | (((with_reducible apply LoadSt.ownd (g := slV)); (· (repeat (first | exact List.Mem.head _ | with_reducible apply List.mem_append_right | with_reducible apply List.mem_cons_of_mem))); (· (exact Nat.zero_add _)); (· ((simp only [List.length_map, List.length_append, List.length_cons, List.length_nil, List.length_take, List.length_drop, List.length_replicate, List.length_set] at *; omega)))))
                         | (with_reducible refine NextSt.mk ?_)
                         | (with_reducible refine OnBB.ff ?_)
                         | ((with_reducible apply NW.addN); (· with_reducible rfl); (· exact natL _); (· omega))
                         | ((with_reducible apply LoadSt.box); · (repeat (first | exact List.Mem.head _ | with_reducible apply List.mem_append_right | with_reducible apply List.mem_cons_of_mem)))
                         | ((with_reducible apply IdxSl.own1); (· rfl); (· with_reducible rfl); · ((simp only [List.length_map, List.length_append, List.length_cons, List.length_nil, List.length_take, List.length_drop, List.length_replicate, List.length_set] at *; omega)))
                         | ((with_reducible apply Cmp.no); · (dsimp only; omega)))
                refine RoundFix.mk ((p + 1, S2, n2, sb, wb, lp, ls)) ?_ ?_ _ rfl (Wk.drop (by (try dsimp only); (try simp only [List.cons_append, List.nil_append]); (repeat (with_reducible exact List.Sublist.refl _)))) ?_
                · dsimp only; omega
                · repeat' (first | exact True.intro | refine And.intro ?_ ?_ | rfl)
                · refine ⟨by omega, ?_, hS2.mono ?_, hN2, ?_, hk2⟩
                  · rw [show S.2.logs.length - (p + 1) = f by omega]
                    conv => rhs; rw [takeO, ← hti2, if_pos rfl]
                  · dsimp only; omega
                  · dsimp only; omega
          · have : p = S.2.logs.length := by omega
            subst this
            rw [Nat.sub_self] at hto
            rw [← hto]
            repeat' (conv => whnf
                     first
                     | (with_reducible refine NextSt.mk ?_)
                     | (with_reducible refine OnBB.ff ?_)
                     | ((with_reducible apply Cmp.no); · omega))
            refine FinSt.own (R := BRG r b S1 _ G) (O1 := G ++ bH ⟨r.p, sb1, wb1⟩ S1.1 ⟨b.p, lp1, ls1⟩ S1.2) (by (try dsimp only); (try simp only [List.cons_append, List.nil_append]); (repeat (first | with_reducible exact List.Sublist.refl _ | with_reducible apply List.Sublist.cons))) ?_
            exact BRG.mk hk1'
end Go.Proofs.Ytlbmlimaobkhpaa
