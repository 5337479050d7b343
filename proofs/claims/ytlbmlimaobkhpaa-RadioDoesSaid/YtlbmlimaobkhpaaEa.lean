/- Disks after a fall. -/
import Derived.Test.YtlbmlimaobkhpaaRe
import Derived.Test.YtlbmlimaobkhpaaRd
import Derived.Test.YtlbmlimaobkhpaaGc
set_option linter.unusedVariables false
set_option linter.unusedSimpArgs false
set_option linter.unusedSectionVars false
/- Disks after a fall: what is stored of the writes that survive. No program in sight. -/
namespace Go.Proofs.Ytlbmlimaobkhpaa
set_option linter.unusedSimpArgs false
set_option linter.unusedVariables false
namespace Dk
theorem tear_snoc (w : Nat × Str) (k : UInt8) : ∀ (l : List ((Nat × Str) × UInt8)) (safe : List Str), tear safe (l ++ [(w, k)]) = (settle safe (l.map Prod.fst)).set w.1 (w.2.take (min k.toNat 64) ++ ((settle safe (l.map Prod.fst)).getD w.1 []).drop (min k.toNat 64))
  | [], _ => rfl
  | [(v, j)], safe => rfl
  | (v, j) :: x :: r, safe => by
    have := tear_snoc w k (x :: r) (safe.set v.1 v.2)
    exact this
theorem settle_getD (i : Nat) : ∀ (l : List (Nat × Str)) (s : List Str), i < s.length → (settle s l).getD i [] = look l i (s.getD i [])
  | [], _, _ => rfl
  | w :: l, s, h => by
    have e : (s.set w.1 w.2).getD i [] = if w.1 = i then w.2 else s.getD i [] := by
      simp only [List.getD_eq_getElem?_getD, List.getElem?_set]
      split
      · rename_i e; subst e; rw [if_pos h]; rfl
      · rfl
    show (settle (s.set w.1 w.2) l).getD i [] = look l i (if w.1 = i then w.2 else s.getD i [])
    rw [settle_getD i l _ (by rw [List.length_set]; exact h), e]
def KI (ws : List (Nat × Str)) (keep : Str) (i : Nat) : List ((Nat × Str) × UInt8) := ((ws.zip keep).take i).filter fun p => p.2 != 0
theorem KI_succ {ws : List (Nat × Str)} {keep : Str} {i : Nat} (h : i < ws.length) : KI ws keep (i + 1) = if i < keep.length ∧ keep.getD i 0 ≠ 0 then KI ws keep i ++ [(ws.getD i default, keep.getD i 0)] else KI ws keep i := by
  unfold KI
  by_cases hk : i < keep.length
  · have hz : i < (ws.zip keep).length := by rw [List.length_zip]; omega
    rw [List.take_succ_eq_append_getElem hz, List.filter_append, List.getElem_zip]
    have e1 : ws.getD i default = ws[i] := by rw [List.getD_eq_getElem?_getD, List.getElem?_eq_getElem h]; rfl
    have e2 : keep.getD i 0 = keep[i] := by rw [List.getD_eq_getElem?_getD, List.getElem?_eq_getElem hk]; rfl
    rw [e1, e2]
    by_cases h0 : keep[i] = 0
    · simp [h0]
    · simp [h0, hk]
  · have hz : (ws.zip keep).length ≤ i := by rw [List.length_zip]; omega
    rw [List.take_of_length_le (by omega), List.take_of_length_le hz, if_neg (fun h => hk h.1)]
theorem KI_all {ws : List (Nat × Str)} {keep : Str} {i : Nat} (h : min ws.length keep.length ≤ i) : KI ws keep i = kept ws keep := by
  unfold KI kept
  rw [List.take_of_length_le (by rw [List.length_zip]; exact h)]
theorem KI_mem {ws : List (Nat × Str)} {keep : Str} {i : Nat} {p : (Nat × Str) × UInt8} (h : p ∈ KI ws keep i) : p.1 ∈ ws :=
  (List.of_mem_zip (a := p.1) (b := p.2) (List.mem_of_mem_take (List.mem_filter.1 h).1)).1
theorem KI_len {ws : List (Nat × Str)} {keep : Str} {i : Nat} : (KI ws keep i).length ≤ ws.length := by
  refine Nat.le_trans (List.length_filter_le ..) ?_
  rw [List.length_take, List.length_zip]; omega
def tl (l : List ((Nat × Str) × UInt8)) : Nat := match l.getLast? with | some x => min x.2.toNat 64 | none => 0
theorem tl_snoc (l : List ((Nat × Str) × UInt8)) (x : (Nat × Str) × UInt8) : tl (l ++ [x]) = min x.2.toNat 64 := by simp [tl]
/-- The last write of which something is kept; -1: none. -/
def lastI (keep : Str) : Nat → Int
  | 0 => -1
  | i + 1 => if keep.getD i 0 ≠ 0 then i else lastI keep i
theorem lastI_lt (keep : Str) : ∀ n, lastI keep n < n ∧ -1 ≤ lastI keep n
  | 0 => ⟨by simp [lastI], by simp [lastI]⟩
  | n + 1 => by
    have := lastI_lt keep n
    unfold lastI
    split <;> omega
theorem KI_last {ws : List (Nat × Str)} {keep : Str} : ∀ n, n ≤ ws.length → n ≤ keep.length → KI ws keep n = if lastI keep n = -1 then [] else KI ws keep (lastI keep n).toNat ++ [(ws.getD (lastI keep n).toNat default, keep.getD (lastI keep n).toNat 0)]
  | 0, _, _ => by simp [KI, lastI]
  | n + 1, h1, h2 => by
    rw [KI_succ (by omega)]
    by_cases h0 : keep.getD n 0 = 0
    · rw [if_neg (fun h => h.2 h0), KI_last n (by omega) (by omega)]
      have : lastI keep (n + 1) = lastI keep n := by rw [lastI, if_neg (by simpa using h0)]
      rw [this]
    · have e : lastI keep (n + 1) = n := by rw [lastI, if_pos h0]
      rw [if_pos ⟨by omega, h0⟩, e, if_neg (by omega), Int.toNat_natCast]
/-- The sectors behind so many rounds. -/
def sf (d : Dk) (keep : Str) (L : Int) (i : Nat) : List Str := if (i : Int) ≤ L then settle d.safe ((KI d.waits keep i).map Prod.fst) else tear d.safe (kept d.waits keep)
theorem sf_zero {d : Dk} {keep : Str} : sf d keep (lastI keep (min d.waits.length keep.length)) 0 = d.safe := by
  unfold sf
  split
  · rfl
  · rename_i h
    rw [← KI_all (Nat.le_refl _), KI_last _ (Nat.min_le_left ..) (Nat.min_le_right ..), if_pos]
    · rfl
    · have := (lastI_lt keep (min d.waits.length keep.length)).2
      omega
theorem sf_len {d : Dk} (hd : d.ok) {keep : Str} {L : Int} {i : Nat} (h : (i : Int) ≤ L) : (∀ x ∈ sf d keep L i, x.length = 64) ∧ (sf d keep L i).length = d.safe.length := by
  unfold sf
  rw [if_pos h]
  refine ⟨settle_ok _ _ hd.safe fun w hw => ?_, settle_length ..⟩
  obtain ⟨p, hp, rfl⟩ := List.mem_map.1 hw
  exact (hd.waits _ (KI_mem hp)).2
theorem set_getD {l : List Str} {i : Nat} : l.set i (l.getD i []) = l := by
  apply List.ext_getElem?
  intro j
  rw [List.getElem?_set, List.getD_eq_getElem?_getD]
  split
  · rename_i e; subst e
    split
    · rename_i h; rw [List.getElem?_eq_getElem h]; rfl
    · rename_i h; rw [List.getElem?_eq_none (by omega)]
  · rfl
theorem sf_step {d : Dk} (hd : d.ok) {keep : Str} {i K : Nat} (h : (i : Int) ≤ lastI keep (min d.waits.length keep.length))
    (hK : K = if (0 < (keep.getD i 0).toNat ∧ (i : Int) < lastI keep (min d.waits.length keep.length)) ∨ 64 < (keep.getD i 0).toNat then 64 else (keep.getD i 0).toNat) :
    (sf d keep (lastI keep (min d.waits.length keep.length)) i).set (d.waits.getD i default).1 ((d.waits.getD i default).2.take K ++ ((sf d keep (lastI keep (min d.waits.length keep.length)) i).getD (d.waits.getD i default).1 []).drop K) = sf d keep (lastI keep (min d.waits.length keep.length)) (i + 1) := by
  have hlt := lastI_lt keep (min d.waits.length keep.length)
  have hk1 := KI_last (ws := d.waits) (keep := keep) _ (Nat.min_le_left ..) (Nat.min_le_right ..)
  rw [KI_all (Nat.le_refl _)] at hk1
  have hsl := sf_len hd (keep := keep) h
  have hiw : i < d.waits.length := by omega
  have hw := hd.waits _ (getD_mem (d := default) hiw)
  have hlast : ∀ hne : lastI keep (min d.waits.length keep.length) ≠ -1, keep.getD (lastI keep (min d.waits.length keep.length)).toNat 0 ≠ 0 := by
    have : ∀ n, lastI keep n ≠ -1 → keep.getD (lastI keep n).toNat 0 ≠ 0 := by
      intro n
      induction n with
      | zero => intro h; exact absurd rfl h
      | succ n ih =>
        unfold lastI
        split
        · rename_i h; intro _; rw [Int.toNat_natCast]; exact h
        · exact ih
    exact this _
  generalize hL : lastI keep (min d.waits.length keep.length) = L at *
  rw [if_neg (by omega)] at hk1
  have hs : sf d keep L i = settle d.safe ((KI d.waits keep i).map Prod.fst) := if_pos h
  by_cases hi : (i : Int) < L
  · have hs1 : sf d keep L (i + 1) = settle d.safe ((KI d.waits keep (i + 1)).map Prod.fst) := if_pos (by omega)
    rw [hs1, KI_succ hiw]
    by_cases h0 : keep.getD i 0 = 0
    · rw [if_neg (fun h => h.2 h0), ← hs]
      rw [h0] at hK
      have : K = 0 := by rw [hK, if_neg (fun h => h.elim (fun h => absurd h.1 (by decide)) (fun h => absurd h (by decide)))]; rfl
      rw [this, List.take_zero, List.drop_zero, List.nil_append, set_getD]
    · have hp : 0 < (keep.getD i 0).toNat := Nat.pos_of_ne_zero fun e => h0 (UInt8.toNat_inj.1 e)
      rw [if_pos ⟨by omega, h0⟩, List.map_append, settle_app, ← hs]
      rw [if_pos (.inl ⟨hp, hi⟩)] at hK
      have hl : ((sf d keep L i).getD (d.waits.getD i default).1 []).length = 64 := hsl.1 _ (getD_mem (by rw [hsl.2]; exact hw.1))
      rw [hK, List.take_of_length_le (by omega), List.drop_of_length_le (by omega), List.append_nil]
      rfl
  · have e : L = i := by omega
    have hs1 : sf d keep L (i + 1) = tear d.safe (kept d.waits keep) := if_neg (by omega)
    have : K = min (keep.getD i 0).toNat 64 := by rw [hK]; split <;> omega
    have e2 : L.toNat = i := by omega
    rw [hs1, hk1, e2, tear_snoc, ← hs, this]
theorem sf_end {d : Dk} {keep : Str} {L : Int} {i : Nat} (h : L < i) : sf d keep L i = tear d.safe (kept d.waits keep) := if_neg (by omega)
theorem tear_len : ∀ (l : List ((Nat × Str) × UInt8)) (s : List Str), (tear s l).length = s.length
  | [], _ => rfl
  | [(w, k)], s => by simp [tear]
  | (w, k) :: x :: r, s => by
    show (tear (s.set w.1 w.2) (x :: r)).length = _
    rw [tear_len (x :: r), List.length_set]
theorem tear_ok : ∀ (l : List ((Nat × Str) × UInt8)) (s : List Str), (∀ x ∈ s, x.length = 64) → (∀ p ∈ l, p.1.1 < s.length ∧ p.1.2.length = 64) → ∀ x ∈ tear s l, x.length = 64
  | [], _, h, _ => h
  | [(w, k)], s, h, hl => by
    intro x hx
    have hw := hl _ (List.Mem.head _)
    have hg := h _ (getD_mem (d := []) hw.1)
    rcases List.mem_or_eq_of_mem_set hx with h1 | rfl
    · exact h _ h1
    · rw [List.length_append, List.length_take, List.length_drop]; simp only at hw hg; omega
  | (w, k) :: x :: r, s, h, hl => by
    have hw := hl _ (List.Mem.head _)
    refine tear_ok (x :: r) (s.set w.1 w.2) (fun y hy => ?_) (fun p hp => ?_)
    · rcases List.mem_or_eq_of_mem_set hy with h1 | rfl
      · exact h _ h1
      · exact hw.2
    · rw [List.length_set]; exact hl _ (List.mem_cons_of_mem _ hp)
end Dk
end Go.Proofs.Ytlbmlimaobkhpaa
/- Disks after a fall: the program. -/
namespace Go.Proofs.Ytlbmlimaobkhpaa
open Go Go.Gv
set_option maxRecDepth 100000
set_option maxHeartbeats 4000000
set_option linter.unusedSimpArgs false
set_option linter.unusedVariables false
theorem nb_get' (l : Str) (i : Nat) : (nb l).getD i 0 = (l.getD i 0).toNat := by
  simp only [nb, List.getD_eq_getElem?_getD, List.getElem?_map]
  cases l[i]? <;> rfl
theorem copyT {s bs : Str} {K kk : Nat} (hK : K ≤ 64) (hs : s.length = 64) (hb : bs.length = 64) : ((nb bs ++ List.replicate kk 0).take 0 ++ ((s.take K).take (min (s.take K).length bs.length)).map UInt8.toNat ++ (nb bs ++ List.replicate kk 0).drop (0 + min (s.take K).length bs.length)) = nb (s.take K ++ bs.drop K) ++ List.replicate kk 0 := by
  have e : min (s.take K).length bs.length = K := by rw [List.length_take]; omega
  rw [e, Nat.zero_add, List.take_zero, List.nil_append, List.take_take, Nat.min_self, List.drop_append_of_le_length (by rw [nb, List.length_map]; omega)]
  simp [nb, List.map_drop]
theorem f45 (r : Dr) (d : Dk) (keep : Str) (hd : d.ok) (hkl : keep.length ≤ 9223372036854775807) (hk : dOk r d) (h : View) : GSpec Try.prog 45 [dP r, sV keep] h (dHp r d) (fun v _ O' => DR r (d.restart keep) noV v O') := by
  have e108 := f108 r d hd.few.2 hk h
  obtain ⟨D, hD⟩ : ∃ D, D = d.fall := ⟨_, rfl⟩
  have hres : d.restart keep = ⟨Dk.tear D.safe (Dk.kept D.waits keep), [], false, D.armed, D.falls⟩ := by rw [hD]; rfl
  have hsafe : ∀ x ∈ D.safe, x.length = 64 := by rw [hD]; exact hd.safe
  have hw : ∀ w ∈ D.waits, w.1 < D.safe.length ∧ w.2.length = 64 := by rw [hD]; exact hd.waits
  have hsz : D.safe.length ≤ 4096 := by rw [hD]; exact hd.size
  have hf1 : D.waits.length < 1000000000 := by rw [hD]; exact hd.few.1
  rw [← hD] at e108
  rw [hres]
  clear hres hD
  have hKe : Dk.KI D.waits keep D.waits.length = Dk.kept D.waits keep := Dk.KI_all (Nat.min_le_left ..)
  have hKm : ∀ p ∈ Dk.kept D.waits keep, p.1 ∈ D.waits := fun p hp => by rw [← hKe] at hp; exact Dk.KI_mem hp
  have hKl : (Dk.kept D.waits keep).length ≤ D.waits.length := by rw [← hKe]; exact Dk.KI_len
  refine GSpec.enter (fn := Try.f45) Try.func45 rfl (by kernel_rfl) ?_
  repeat' (conv => whnf
           first
           | ((with_reducible apply CallSt.loc (f := 108) (H := dHp r d) (R := DR r D noV)); (· exact Loc.last); (· exact e108); rintro _ _ ⟨⟨p2, sb, wb⟩, hp2, rfl, hk2, rfl⟩; (obtain rfl : p2 = r.p := hp2); unfold dHp)
           | (with_reducible refine NextSt.mk ?_)
           | ((with_reducible apply LoadSt.box); · (repeat (exact List.Mem.head _))))
  have hsb := hk2.sb
  have hwb := hk2.wb
  refine LoopSt.fix [4, 5, 6, 7, 20, 21, 22, 23, 24, 25, 26, 27, 28, 29, 30, 31, 32, 33, 34, 35, 36, 37, 38, 39, 40, 41, 42, 43, 44] (fun ((i, kb) : Nat × Buf) => [(4, .slice kb.a (Dk.KI D.waits keep i).length kb.cap), (5, iN (Dk.tl (Dk.KI D.waits keep i))), (20, iN i)]) (fun (i, kb) => (r.p, .cells ⟨[.slice sb.a D.safe.length sb.cap, .slice wb.a D.waits.length wb.cap, .bool D.off, iN D.armed, iN D.falls]⟩ 141 (0, 0)) :: (sb.hp 9 (D.safe.map sV) ++ (wb.hp 149 (D.waits.flatMap wV) ++ kb.hp 149 (((Dk.KI D.waits keep i).map Prod.fst).flatMap wV)))) (fun (i, kb) => i ≤ D.waits.length ∧ kb.ok 2 (((Dk.KI D.waits keep i).map Prod.fst).flatMap wV) (Dk.KI D.waits keep i).length) (fun (i, kb) => D.waits.length - i) ((0, Buf.nil)) _ (Wk.refl _ _) ((by show _ = _ :: (_ ++ (_ ++ [])); rw [List.append_nil])) ?_ ?_ ?_
  · repeat' (first | exact True.intro | refine And.intro ?_ ?_ | rfl)
  · exact ⟨Nat.zero_le _, Buf.nil_ok 2⟩
  · rintro ⟨i, kb⟩ d2 ⟨hi, hB⟩
    dsimp only at hi hB ⊢
    have hib := nb_get' keep i
    have hbl : (nb keep).getD i 0 < 256 := by rw [hib]; exact UInt8.toNat_lt _
    by_cases hin : i < D.waits.length
    · have hst := Dk.KI_succ (keep := keep) hin
      have hkl2 : (Dk.KI D.waits keep i).length ≤ D.waits.length := Dk.KI_len
      by_cases h2 : i < keep.length
      · by_cases h3 : (nb keep).getD i 0 = 0
        · rw [if_neg (fun h => h.2 (UInt8.toNat_inj.1 (by rw [← hib, h3]; rfl)))] at hst
          rw [← hst] at hB ⊢
          repeat' (conv => whnf
                   first
                   | ((with_reducible apply LoadSt.rdg (g := wV) (s := 2)); (· rfl); (· (repeat (first | (with_reducible apply Rd.appL; with_reducible apply Buf.rd; with_reducible assumption) | with_reducible apply Rd.cons | with_reducible apply Rd.appR))); (· exact fun _ => rfl); (· decide); · (omega))
                   | ((with_reducible apply IdxSl.bufm (s := 2)); (· with_reducible assumption); (· rfl); (· rfl); (· with_reducible rfl); · (omega))
                   | (with_reducible refine NextSt.mk ?_)
                   | (with_reducible refine OnBB.tt ?_)
                   | (with_reducible refine OnBB.ff ?_)
                   | ((with_reducible apply NW.addN); (· with_reducible rfl); (· exact natL _); (· omega))
                   | ((with_reducible apply Cmp.yes); · omega)
                   | ((with_reducible apply Cmp.no); · omega)
                   | ((with_reducible refine AllocSt.mk ?_); intro _b _hb _hbO)
                   | ((with_reducible apply StoreSt.box); (· (repeat (exact Upd.hd))); (· rfl); (· rfl); (· rfl))
                   | ((with_reducible apply StrIdx.m); (· with_reducible rfl); · omega))
          refine RoundFix.mk ((i + 1, kb)) ?_ ?_ _ rfl (Wk.drop (by (try dsimp only); (try simp only [List.cons_append, List.nil_append]); (repeat (first | with_reducible exact List.Sublist.refl _ | with_reducible apply List.Sublist.cons)))) ?_
          · dsimp only; omega
          · repeat' (first | exact True.intro | refine And.intro ?_ ?_ | rfl)
          · exact ⟨by omega, hB⟩
        · rw [if_pos ⟨h2, fun e => h3 (by rw [hib, e]; rfl)⟩] at hst
          repeat' (conv => whnf
                   first
                   | ((with_reducible apply AppSt.litm (g := wV) (x := D.waits.getD i default) (s := 2) (z := .agg ⟨[.int .i64 0, .string ⟨⟨[]⟩⟩]⟩)); (· (repeat (first | with_reducible exact Loc.last | with_reducible apply Loc.tl | with_reducible apply Loc.skip))); (· exact hB); (· (repeat (exact List.Mem.head _))); (· rfl); (· rfl); (· rfl); (· rfl); (· rfl); (· rfl); (· rfl); (· (show _ * 24 ≤ _; omega)); (· omega); intro kb' hkb')
                   | ((with_reducible apply LoadSt.rdg (g := wV) (s := 2)); (· rfl); (· (repeat (first | (with_reducible apply Rd.appL; with_reducible apply Buf.rd; with_reducible assumption) | with_reducible apply Rd.cons | with_reducible apply Rd.appR))); (· exact fun _ => rfl); (· decide); · (omega))
                   | ((with_reducible apply IdxSl.bufm (s := 2)); (· with_reducible assumption); (· rfl); (· rfl); (· with_reducible rfl); · (omega))
                   | (with_reducible refine NextSt.mk ?_)
                   | (with_reducible refine OnBB.tt ?_)
                   | ((with_reducible apply NW.addN); (· with_reducible rfl); (· exact natL _); (· omega))
                   | ((with_reducible apply NW.i64N); (· with_reducible rfl); (· omega))
                   | ((with_reducible apply Cmp.yes); · omega)
                   | ((with_reducible apply LoadSt.boxAgg); · (repeat (exact List.Mem.head _)))
                   | ((with_reducible refine AllocSt.mk ?_); intro _b _hb _hbO)
                   | ((with_reducible apply StoreSt.box); (· (repeat (exact Upd.hd))); (· rfl); (· rfl); (· rfl))
                   | ((with_reducible apply MinMax.minN); (· with_reducible rfl); (· exact natL _))
                   | ((with_reducible apply StrIdx.m); (· with_reducible rfl); · omega))
          have hl2 : (Dk.KI D.waits keep (i + 1)).length = (Dk.KI D.waits keep i).length + 1 := by rw [hst, List.length_append]; rfl
          have htl : Dk.tl (Dk.KI D.waits keep (i + 1)) = min ((nb keep).getD i 0) 64 := by rw [hst, Dk.tl_snoc, hib]
          rw [show (Dk.KI D.waits keep i).map Prod.fst ++ [D.waits.getD i default] = (Dk.KI D.waits keep (i + 1)).map Prod.fst from by rw [hst, List.map_append]; rfl] at hkb' ⊢
          rw [← hl2] at hkb'
          refine RoundFix.mk ((i + 1, kb')) ?_ ?_ _ rfl (Wk.drop (by (try dsimp only); (try simp only [List.cons_append, List.nil_append]); (repeat (first | with_reducible exact List.Sublist.refl _ | with_reducible apply List.Sublist.cons)))) ?_
          · dsimp only; omega
          · repeat' (first | exact True.intro | refine And.intro ?_ ?_ | exact congrArg (fun n => Value.slice kb'.a n kb'.cap) hl2.symm | exact congrArg iN htl.symm | rfl)
          · exact ⟨by omega, hkb'⟩
      · rw [if_neg (fun h => h2 h.1)] at hst
        rw [← hst] at hB ⊢
        repeat' (conv => whnf
                 first
                 | ((with_reducible apply LoadSt.rdg (g := wV) (s := 2)); (· rfl); (· (repeat (first | (with_reducible apply Rd.appL; with_reducible apply Buf.rd; with_reducible assumption) | with_reducible apply Rd.cons | with_reducible apply Rd.appR))); (· exact fun _ => rfl); (· decide); · (omega))
                 | ((with_reducible apply IdxSl.bufm (s := 2)); (· with_reducible assumption); (· rfl); (· rfl); (· with_reducible rfl); · (omega))
                 | (with_reducible refine NextSt.mk ?_)
                 | (with_reducible refine OnBB.tt ?_)
                 | (with_reducible refine OnBB.ff ?_)
                 | ((with_reducible apply NW.addN); (· with_reducible rfl); (· exact natL _); (· omega))
                 | ((with_reducible apply Cmp.yes); · omega)
                 | ((with_reducible apply Cmp.no); · omega)
                 | ((with_reducible refine AllocSt.mk ?_); intro _b _hb _hbO)
                 | ((with_reducible apply StoreSt.box); (· (repeat (exact Upd.hd))); (· rfl); (· rfl); (· rfl)))
        refine RoundFix.mk ((i + 1, kb)) ?_ ?_ _ rfl (Wk.drop (by (try dsimp only); (try simp only [List.cons_append, List.nil_append]); (repeat (first | with_reducible exact List.Sublist.refl _ | with_reducible apply List.Sublist.cons)))) ?_
        · dsimp only; omega
        · repeat' (first | exact True.intro | refine And.intro ?_ ?_ | rfl)
        · exact ⟨by omega, hB⟩
    · have : i = D.waits.length := by omega
      subst this
      rw [hKe] at hB ⊢
      generalize Dk.kept D.waits keep = Kp at *
      have hcc : Kp = [] ∨ ∃ l x, Kp = l ++ [x] := by
        rcases Kp.eq_nil_or_concat with h | ⟨l, x, h⟩
        · exact .inl h
        · exact .inr ⟨l, x, by rw [h, List.concat_eq_append]⟩
      rcases hcc with rfl | ⟨l, ⟨w, k⟩, rfl⟩
      · have hr106 : Rd h (wb.hp 149 (D.waits.flatMap wV) ++ kb.hp 149 ((([] : List ((Nat × Str) × UInt8)).map Prod.fst).flatMap wV)) kb.a (([] : List (Nat × Str)).flatMap wV) := Rd.appR (Buf.rd hB)
        have hl0 : ([] : List ((Nat × Str) × UInt8)).length = 0 := rfl
        rw [hl0] at hB ⊢
        repeat' (conv => whnf
                 first
                 | ((with_reducible apply CallSt.loc (f := 106) (H := dHpG ⟨r.p, sb, wb⟩ D (kb.hp 149 ((([] : List ((Nat × Str) × UInt8)).map Prod.fst).flatMap wV))) (R := fun v O' => ∃ r', r'.p = r.p ∧ O' = dHpG r' { D with safe := D.safe, waits := [] } (kb.hp 149 ((([] : List ((Nat × Str) × UInt8)).map Prod.fst).flatMap wV)) ∧ dOk r' { D with safe := D.safe, waits := [] } ∧ v = noV)); (· exact Loc.last); (· exact f106 ⟨r.p, sb, wb⟩ D _ [] kb.a kb.cap h (by simp) (by decide) hk2 hr106); rintro _ _ ⟨⟨p3, sb3, wb3⟩, hp3, rfl, hk3, rfl⟩; (obtain rfl : p3 = r.p := hp3); unfold dHpG)
                 | (with_reducible refine NextSt.mk ?_)
                 | (with_reducible refine OnBB.ff ?_)
                 | ((with_reducible apply NW.i64); · omega)
                 | ((with_reducible apply Cmp.no); · omega)
                 | ((with_reducible apply StoreSt.box); (· (repeat (exact Upd.hd))); (· rfl); (· rfl); (· rfl)))
        exact FinSt.own (R := fun v O' => DR r _ noV v O') (List.Sublist.cons_cons _ ((List.Sublist.refl _).append (List.sublist_append_left _ _))) ⟨⟨r.p, sb3, wb3⟩, rfl, rfl, ⟨hk3.sb, hk3.wb⟩, rfl⟩
      · have hm := hKm (w, k) (by simp)
        have hwm := hw w hm
        have hll : (l ++ [(w, k)]).length = l.length + 1 := by simp
        have hlf : ((l ++ [(w, k)]).map Prod.fst) = l.map Prod.fst ++ [w] := by simp
        have hwd : (l.map Prod.fst ++ [w]).getD l.length default = w := by simp [List.getD_eq_getElem?_getD]
        have hwj : ∀ j < l.length, (l.map Prod.fst ++ [w]).getD j default = (l.map Prod.fst).getD j default := fun j hj => by
          simp only [List.getD_eq_getElem?_getD]; rw [List.getElem?_append_left (by simpa using hj)]
        have hlw : (l.map Prod.fst ++ [w]).length = l.length + 1 := by simp
        rw [Dk.tl_snoc, hll, hlf]
        rw [hlf, hll] at hB
        have hk64 : k.toNat < 256 := UInt8.toNat_lt _
        have hcp := Buf.le hB
        have hwdd : (l.map Prod.fst ++ [w]).getD (l.length + 1 - 1) default = w := by rw [Nat.add_sub_cancel]; exact hwd
        have hsl : (D.safe.getD w.1 []).length = 64 := hsafe _ (getD_mem hwm.1)
        have hlook : ∀ n, (Dk.look ((l.map Prod.fst).take n) w.1 (D.safe.getD w.1 [])).length = 64 := by
          intro n
          rw [← Dk.settle_getD _ _ _ hwm.1]
          refine Dk.settle_ok _ _ hsafe (fun v hv => ?_) _ (getD_mem (by rw [Dk.settle_length]; exact hwm.1))
          obtain ⟨p, hp, rfl⟩ := List.mem_map.1 (List.mem_of_mem_take hv)
          exact (hw _ (hKm p (by simp [hp]))).2
        repeat' (conv => whnf
                 first
                 | (((with_reducible apply LoadSt.rdf (g := wV) (s := 2)); (· (repeat (first | (with_reducible apply Buf.rd; with_reducible assumption) | with_reducible apply Rd.cons | with_reducible apply Rd.appR))); (· exact fun _ => rfl); (· rw [hlw]; omega); (· decide)); rw [hwdd])
                 | ((with_reducible refine DrawSt.walk [0, 1, 2, 3, 4, 5, 6, 7, 8, 9, 10, 11] mixed ?_ ?_); · decide +kernel)
                 | ((with_reducible apply IdxSl.bufm (s := 2)); (· with_reducible assumption); (· rfl); (· rfl); (· with_reducible rfl); · (omega))
                 | (with_reducible refine NextSt.mk ?_)
                 | (with_reducible refine OnBB.tt ?_)
                 | (with_reducible refine OnBB.ff ?_)
                 | ((with_reducible apply NW.subN); (· with_reducible rfl); (· exact natL _); (· omega))
                 | ((with_reducible apply Cmp.yes); · omega)
                 | ((with_reducible apply Cmp.no); · omega)
                 | ((with_reducible apply LoadSt.box); · (repeat (first | exact List.Mem.head _ | with_reducible apply List.mem_append_right | with_reducible apply List.mem_cons_of_mem)))
                 | ((with_reducible apply LoadSt.rdS); (· (repeat (first | (with_reducible apply Rd.appL; with_reducible apply Buf.rd; with_reducible assumption) | with_reducible apply Rd.cons))); · (omega))
                 | ((with_reducible apply IdxSl.buf1); (· with_reducible assumption); (· rfl); (· rfl); (· with_reducible rfl); · (omega))
                 | ((with_reducible apply SlSl.hi); (· with_reducible rfl); (· (omega))))
        refine LoopSt.fix [9, 11, 65, 66, 67, 68, 69, 70, 71, 72, 73, 74, 75, 76, 77, 78, 79] (fun (j : Nat) => [(9, sV (Dk.look ((l.map Prod.fst).take j) w.1 (D.safe.getD w.1 []))), (65, iN j)]) (fun _ => _) (fun j => j ≤ l.length) (fun j => l.length - j) (0) _ (Wk.refl _ _) (rfl) ?_ ?_ ?_
        · repeat' (first | exact True.intro | refine And.intro ?_ ?_ | rfl)
        · exact Nat.zero_le _
        · intro j d3 hj
          by_cases hjl : j < l.length
          · have hwjj := hwj j hjl
            have hlk := Dk.look_take (i := w.1) (s := D.safe.getD w.1 []) (show j < (l.map Prod.fst).length by simpa using hjl)
            repeat' (conv => whnf
                     first
                     | (((with_reducible apply LoadSt.rdf (g := wV) (s := 2) (k := l.length + 1 - 1)); (· (repeat (first | (with_reducible apply Buf.rd; with_reducible assumption) | with_reducible apply Rd.cons | with_reducible apply Rd.appR))); (· exact fun _ => rfl); (· rw [hlw]; omega); (· decide)); rw [hwdd])
                     | (((with_reducible apply IdxSl.rdg (g := wV) (s := 2)); (· exact Buf.rd (e := 149) (h := h) hB); (· exact fun _ => rfl); (· decide); (· rfl); (· with_reducible rfl); (· omega); · (rw [hlw]; omega)))
                     | (((with_reducible apply LoadSt.rdg (g := wV) (s := 2)); (· rfl); (· (repeat (first | (with_reducible apply Buf.rd; with_reducible assumption) | with_reducible apply Rd.cons | with_reducible apply Rd.appR))); (· exact fun _ => rfl); (· decide); (· rw [hlw]; omega)); rw [hwjj])
                     | ((with_reducible refine DrawSt.walk [0, 1, 2, 3, 4, 5, 6, 7] mixed ?_ ?_); · decide +kernel)
                     | (with_reducible refine NextSt.mk ?_)
                     | (with_reducible refine OnBB.tt ?_)
                     | (with_reducible refine OnBB.ff ?_)
                     | ((with_reducible apply NW.addN); (· with_reducible rfl); (· exact natL _); (· omega))
                     | ((with_reducible apply Cmp.yes); · omega)
                     | ((with_reducible apply LoadSt.box); · (repeat (exact List.Mem.head _)))
                     | ((with_reducible refine AllocSt.mk ?_); intro _b _hb _hbO)
                     | ((with_reducible apply StoreSt.box); (· (repeat (exact Upd.hd))); (· rfl); (· rfl); (· rfl))
                     | ((with_reducible refine Cmp.mk ?_ ?_) <;> intro _hc))
            · rw [if_pos (by omega)] at hlk
              refine RoundFix.mk (j + 1) ?_ ?_ _ rfl (Wk.drop (by (try dsimp only); (try simp only [List.cons_append, List.nil_append]); (repeat (first | with_reducible exact List.Sublist.refl _ | with_reducible apply List.Sublist.cons)))) ?_
              · omega
              · repeat' (first | exact True.intro | refine And.intro ?_ ?_ | exact congrArg sV hlk.symm | rfl)
              · omega
            · rw [if_neg (by omega)] at hlk
              refine RoundFix.mk (j + 1) ?_ ?_ _ rfl (Wk.drop (by (try dsimp only); (try simp only [List.cons_append, List.nil_append]); (repeat (first | with_reducible exact List.Sublist.refl _ | with_reducible apply List.Sublist.cons)))) ?_
              · omega
              · repeat' (first | exact True.intro | refine And.intro ?_ ?_ | exact congrArg sV hlk.symm | rfl)
              · omega
          · rw [List.take_of_length_le (by rw [List.length_map]; omega)]
            have hlk := hlook l.length
            rw [List.take_of_length_le (by rw [List.length_map]; omega)] at hlk
            generalize hbs : Dk.look (l.map Prod.fst) w.1 (D.safe.getD w.1 []) = bs at *
            have hset : (l.map Prod.fst ++ [w]).set l.length (w.1, w.2.take (min k.toNat 64) ++ bs.drop (min k.toNat 64)) = l.map Prod.fst ++ [(w.1, w.2.take (min k.toNat 64) ++ bs.drop (min k.toNat 64))] := by
              rw [List.set_append_right _ _ (by simp)]; simp
            have htear : Dk.tear D.safe (l ++ [(w, k)]) = Dk.settle D.safe (l.map Prod.fst ++ [(w.1, w.2.take (min k.toNat 64) ++ bs.drop (min k.toNat 64))]) := by
              rw [Dk.tear_snoc, Dk.settle_app, Dk.settle_getD _ _ _ hwm.1, hbs]; rfl
            have hB2 : kb.ok 2 ((l.map Prod.fst ++ [(w.1, w.2.take (min k.toNat 64) ++ bs.drop (min k.toNat 64))]).flatMap wV) (l.length + 1) := Buf.ok_len hB (by simp [wV])
            have e106 := f106 ⟨r.p, sb, wb⟩ D (kb.hp 149 ((l.map Prod.fst ++ [(w.1, w.2.take (min k.toNat 64) ++ bs.drop (min k.toNat 64))]).flatMap wV)) (l.map Prod.fst ++ [(w.1, w.2.take (min k.toNat 64) ++ bs.drop (min k.toNat 64))]) kb.a kb.cap h
              (fun v hv => by
                rcases List.mem_append.1 hv with h1 | h1
                · obtain ⟨p, hp, rfl⟩ := List.mem_map.1 h1
                  exact (hw _ (hKm p (by simp [hp]))).1
                · rw [List.mem_singleton] at h1; subst h1; exact hwm.1)
              (by rw [List.length_append, List.length_map]; simp at hKl; simp; omega) hk2 (Rd.appR (Buf.rd hB2))
            rw [show (l.map Prod.fst ++ [(w.1, w.2.take (min k.toNat 64) ++ bs.drop (min k.toNat 64))]).length = l.length + 1 from by simp] at e106
            rw [htear]
            clear htear
            generalize l.map Prod.fst ++ [(w.1, w.2.take (min k.toNat 64) ++ bs.drop (min k.toNat 64))] = l2 at *
            repeat' (conv => whnf
                     first
                     | (((with_reducible apply LoadSt.rdf (g := wV) (s := 2) (k := l.length + 1 - 1)); (· (repeat (first | (with_reducible apply Buf.rd; with_reducible assumption) | with_reducible apply Rd.cons | with_reducible apply Rd.appR))); (· exact fun _ => rfl); (· rw [hlw]; omega); (· decide)); rw [hwdd])
                     | ((apply BytesSt.nat; intro bb cp kk hcp2))
                     | ((show CopySt _ _ 1 (Value.slice (some ⟨bb, 0, none⟩) bs.length cp) (.string ⟨⟨w.2.take (min k.toNat 64)⟩⟩) _ _ _); refine CopySt.str (by (repeat (exact Upd.hd))) (by rw [List.length_append, nb, List.length_map]; omega) (Or.inr (by show 0 + bs.length ≤ cp; omega)) ?_; rw [copyT (Nat.min_le_right ..) hwm.2 hlk])
                     | (refine ToStr.bytes (l := nb (w.2.take (min k.toNat 64) ++ bs.drop (min k.toNat 64))) (Rd.pre (by (repeat (first | exact List.Mem.head _ | with_reducible apply List.mem_append_right)))) (nb_byt _) (by rw [nb, List.length_map, List.length_append, List.length_take, List.length_drop]; omega) ?_; rw [nb_back])
                     | ((apply StoreSt.buff (g := wV) (s := 2) (i := l.length) (j := 1) (x := (w.1, w.2.take (min k.toNat 64) ++ bs.drop (min k.toNat 64)))); (· (repeat (first | with_reducible exact Loc.last | with_reducible apply Loc.tl | with_reducible apply Loc.skip))); (· exact hB); (· exact fun _ => rfl); (· (show ofs kb.a + (l.length + 1 - 1) * 2 + 1 = _; rw [Nat.add_sub_cancel])); (· rfl); (· rw [hlw]; omega); (· decide); (· rw [hwd]; rfl); (· rfl); rw [hset])
                     | ((with_reducible apply CallSt.loc (f := 106) (H := dHpG ⟨r.p, sb, wb⟩ D (kb.hp 149 (l2.flatMap wV))) (R := fun v O' => ∃ r', r'.p = r.p ∧ O' = dHpG r' { D with safe := Dk.settle D.safe l2, waits := [] } (kb.hp 149 (l2.flatMap wV)) ∧ dOk r' { D with safe := Dk.settle D.safe l2, waits := [] } ∧ v = noV)); (· exact Loc.tl Loc.last); (· exact e106); rintro _ _ ⟨⟨p3, sb3, wb3⟩, hp3, rfl, hk3, rfl⟩; (obtain rfl : p3 = r.p := hp3); unfold dHpG)
                     | ((with_reducible apply IdxSl.bufm (s := 2)); (· with_reducible assumption); (· rfl); (· rfl); (· with_reducible rfl); · (omega))
                     | (with_reducible refine NextSt.mk ?_)
                     | (with_reducible refine OnBB.ff ?_)
                     | ((with_reducible apply Cmp.no); · omega)
                     | ((with_reducible apply StoreSt.box); (· (repeat (first | exact Upd.hd | apply Upd.tl))); (· rfl); (· rfl); (· rfl))
                     | ((with_reducible apply StrSl.hiN); (· (omega))))
            exact FinSt.own (R := fun v O' => DR r _ noV v O') (List.Sublist.cons _ (List.Sublist.cons_cons _ ((List.Sublist.refl _).append (List.sublist_append_left _ _)))) ⟨⟨r.p, sb3, wb3⟩, rfl, rfl, ⟨hk3.sb, hk3.wb⟩, rfl⟩
end Go.Proofs.Ytlbmlimaobkhpaa
