/- Functions of the program: books, parts. -/
import Derived.Test.YtlbmlimaobkhpaaRd
import Derived.Test.YtlbmlimaobkhpaaGc
set_option linter.unusedVariables false
set_option linter.unusedSimpArgs false
set_option linter.unusedSectionVars false
/- Messages, and the sectors of a record. -/
namespace Go.Proofs.Ytlbmlimaobkhpaa
open Go Go.Gv
set_option maxRecDepth 100000
set_option maxHeartbeats 4000000
set_option linter.unusedSimpArgs false
set_option linter.unusedVariables false

structure En where
  office : Int
  no : Int
  body : Str
deriving DecidableEq
def enV (e : En) : List Value := [.int .i64 e.office, .int .i64 e.no, sV e.body]
def enOk (e : En) : Prop := 0 ≤ e.office ∧ e.office < 8 ∧ 0 ≤ e.no ∧ e.no < 64 ∧ e.body.length ≤ 1024
instance (e : En) : Decidable (enOk e) := by unfold enOk; infer_instance
def chkE (e : En) : Int := if enOk e then 0 else 92
theorem f82 (e : En) (hl : e.body.length < 1000000) (h : View) (O : Hp) : GSpec Try.prog 82 [.agg ⟨enV e⟩] h O (Ret O (.int .i64 (chkE e))) := by
  by_cases hok : enOk e
  · rw [show chkE e = 0 from if_pos hok]
    obtain ⟨a1, a2, a3, a4, a5⟩ := hok
    refine GSpec.enter (fn := Try.f82) Try.func82 rfl (by kernel_rfl) ?_
    repeat' (conv => whnf
             first
             | ((with_reducible apply CallSt.decY (f := 93)); (· (apply GSpec.cast (sp := f93 _ _ _ _); (· (repeat' (with_reducible rfl))); all_goals (fail))); · omega)
             | (with_reducible refine NextSt.mk ?_)
             | (with_reducible refine OnBB.tt ?_)
             | (with_reducible refine OnBB.ff ?_)
             | ((with_reducible apply Cmp.no); · omega)
             | ((with_reducible apply LoadSt.box); · (repeat (exact List.Mem.head _)))
             | ((with_reducible refine AllocSt.mk ?_); intro _b _hb _hbO))
    all_goals (conv => whnf)
    all_goals refine FinSt.ret (by (try dsimp only); (try simp only [List.cons_append, List.nil_append]); (repeat (first | with_reducible exact List.Sublist.refl _ | with_reducible apply List.Sublist.cons))) ?_
    all_goals with_reducible rfl
  · rw [show chkE e = 92 from if_neg hok]
    refine GSpec.enter (fn := Try.f82) Try.func82 rfl (by kernel_rfl) ?_
    repeat' (conv => whnf
             first
             | ((with_reducible apply CallSt.dec (f := 93)); (· (apply GSpec.cast (sp := f93 _ _ _ _); (· (repeat' (with_reducible rfl))); all_goals (fail))); all_goals intro _hc)
             | (with_reducible refine NextSt.mk ?_)
             | (with_reducible refine OnBB.tt ?_)
             | (with_reducible refine OnBB.ff ?_)
             | ((with_reducible apply LoadSt.box); · (repeat (exact List.Mem.head _)))
             | ((with_reducible refine AllocSt.mk ?_); intro _b _hb _hbO)
             | ((with_reducible refine Cmp.mk ?_ ?_) <;> intro _hc))
    all_goals (conv => whnf)
    all_goals refine FinSt.ret (by (try dsimp only); (try simp only [List.cons_append, List.nil_append]); (repeat (first | with_reducible exact List.Sublist.refl _ | with_reducible apply List.Sublist.cons))) ?_
    all_goals first | with_reducible rfl | exact absurd ⟨by omega, by omega, by omega, by omega, by omega⟩ hok
theorem f83 (e : En) (hl : e.body.length < 1000000) (h : View) (O : Hp) : GSpec Try.prog 83 [.agg ⟨enV e⟩] h O (Ret O (.int .i64 (chkE e))) := by
  by_cases hok : enOk e
  · rw [show chkE e = 0 from if_pos hok]
    obtain ⟨a1, a2, a3, a4, a5⟩ := hok
    refine GSpec.enter (fn := Try.f83) Try.func83 rfl (by kernel_rfl) ?_
    repeat' (conv => whnf
             first
             | ((with_reducible apply CallSt.decY (f := 94)); (· (apply GSpec.cast (sp := f94 _ _ _ _ _); (· (repeat' (with_reducible rfl))); all_goals (fail))); · omega)
             | (with_reducible refine NextSt.mk ?_)
             | (with_reducible refine OnBB.tt ?_)
             | (with_reducible refine OnBB.ff ?_)
             | ((with_reducible apply Cmp.no); · omega)
             | ((with_reducible apply LoadSt.box); · (repeat (exact List.Mem.head _)))
             | ((with_reducible refine AllocSt.mk ?_); intro _b _hb _hbO))
    all_goals (conv => whnf)
    all_goals refine FinSt.ret (by (try dsimp only); (try simp only [List.cons_append, List.nil_append]); (repeat (first | with_reducible exact List.Sublist.refl _ | with_reducible apply List.Sublist.cons))) ?_
    all_goals with_reducible rfl
  · rw [show chkE e = 92 from if_neg hok]
    refine GSpec.enter (fn := Try.f83) Try.func83 rfl (by kernel_rfl) ?_
    repeat' (conv => whnf
             first
             | ((with_reducible apply CallSt.dec (f := 94)); (· (apply GSpec.cast (sp := f94 _ _ _ _ _); (· (repeat' (with_reducible rfl))); all_goals (fail))); all_goals intro _hc)
             | (with_reducible refine NextSt.mk ?_)
             | (with_reducible refine OnBB.tt ?_)
             | (with_reducible refine OnBB.ff ?_)
             | ((with_reducible apply LoadSt.box); · (repeat (exact List.Mem.head _)))
             | ((with_reducible refine AllocSt.mk ?_); intro _b _hb _hbO)
             | ((with_reducible refine Cmp.mk ?_ ?_) <;> intro _hc))
    all_goals (conv => whnf)
    all_goals refine FinSt.ret (by (try dsimp only); (try simp only [List.cons_append, List.nil_append]); (repeat (first | with_reducible exact List.Sublist.refl _ | with_reducible apply List.Sublist.cons))) ?_
    all_goals first | with_reducible rfl | exact absurd ⟨by omega, by omega, by omega, by omega, by omega⟩ hok
/-- How many sectors a record has. -/
def secN (n : Nat) : Nat := 1 + (n + 4) / 64
theorem f120 (n : Nat) (hn : n < 1000000) (h : View) (O : Hp) : GSpec Try.prog 120 [iN n] h O (Ret O (iN (secN n))) := by
  refine GSpec.enter (fn := Try.f120) Try.func120 rfl (by kernel_rfl) ?_
  repeat' (conv => whnf
           first
           | (with_reducible refine NextSt.mk ?_)
           | ((with_reducible apply NW.addN); (· first | with_reducible rfl | exact natL _); (· first | with_reducible rfl | exact natL _); (· omega))
           | ((with_reducible apply DivSt.quoN); (· with_reducible rfl); (· exact natL _); (· omega)))
  conv => whnf
  refine FinSt.ret (by (try dsimp only); (try simp only [List.cons_append, List.nil_append]); (repeat (with_reducible exact List.Sublist.refl _))) ?_
  rfl
theorem f134 (n : Nat) (hn : n < 256) (h : View) (O : Hp) : GSpec Try.prog 134 [iN n] h O (Ret O (sV ([1, n].map UInt8.ofNat))) := by
  refine GSpec.enter (fn := Try.f134) Try.func134 rfl (by kernel_rfl) ?_
  repeat' (conv => whnf
           first
           | (refine ToStr.bytes (l := [1, n]) (Rd.own0 (List.Mem.head _)) (by intro x hx; simp at hx; omega) rfl ?_)
           | (with_reducible refine NextSt.mk ?_)
           | ((with_reducible apply NW.u8N); (· with_reducible rfl); (· omega))
           | ((with_reducible refine AllocSt.mk ?_); intro _b _hb _hbO))
  conv => whnf
  refine FinSt.ret (by (try dsimp only); (try simp only [List.cons_append, List.nil_append]); (repeat (first | with_reducible exact List.Sublist.refl _ | with_reducible apply List.Sublist.cons))) ?_
  with_reducible rfl
/-- The payload of a message's record. -/
def payE (e : En) : Str := [2, e.office.toNat, e.no.toNat].map UInt8.ofNat ++ e.body
theorem payE_len (e : En) : (payE e).length = 3 + e.body.length := by simp [payE]; omega
theorem f154 (e : En) (hok : enOk e) (h : View) (O : Hp) : GSpec Try.prog 154 [.agg ⟨enV e⟩] h O (Ret O (sV (payE e))) := by
  obtain ⟨o, n, b⟩ := e
  obtain ⟨a1, a2, a3, a4, a5⟩ := hok
  simp only at a1 a2 a3 a4 a5
  obtain ⟨o, rfl⟩ := nat_of a1
  obtain ⟨n, rfl⟩ := nat_of a3
  refine GSpec.enter (fn := Try.f154) Try.func154 rfl (by kernel_rfl) ?_
  repeat' (conv => whnf
           first
           | (refine ToStr.bytes (l := [2, o, n]) (Rd.own0 (List.Mem.head _)) (by intro x hx; simp at hx; omega) rfl ?_)
           | ((with_reducible apply StrAdd.mk); (· (simp only [List.length_append, List.length_map, List.length_cons, List.length_nil]; omega)))
           | (with_reducible refine NextSt.mk ?_)
           | ((with_reducible apply NW.u8N); (· with_reducible rfl); (· omega))
           | ((with_reducible apply LoadSt.box); · (repeat (first | exact List.Mem.head _ | with_reducible apply List.mem_cons_of_mem)))
           | ((with_reducible refine AllocSt.mk ?_); intro _b _hb _hbO))
  conv => whnf
  refine FinSt.ret (by (try dsimp only); (try simp only [List.cons_append, List.nil_append]); (repeat (first | with_reducible exact List.Sublist.refl _ | with_reducible apply List.Sublist.cons))) ?_
  show sV _ = sV _
  simp only [payE, Int.toNat_natCast]
end Go.Proofs.Ytlbmlimaobkhpaa
/- The sectors of a record. -/
namespace Go.Proofs.Ytlbmlimaobkhpaa
open Go Go.Gv
set_option maxRecDepth 100000
set_option maxHeartbeats 4000000
set_option linter.unusedSimpArgs false
set_option linter.unusedVariables false

def four (n : Nat) : List Nat := (List.range 4).map fun i => n / 2 ^ (8 * i) % 256
def hs (n : Nat) : Nat → List Nat
  | 0 => List.replicate 64 0
  | k + 1 => (hs n k).set k (n / 2 ^ (8 * k) % 256)
theorem hs_len (n : Nat) : ∀ k, (hs n k).length = 64
  | 0 => by simp [hs]
  | k + 1 => by rw [hs, List.length_set, hs_len n k]
theorem hs_four (n : Nat) : hs n 4 = four n ++ List.replicate 60 0 := rfl
theorem four_byt (n : Nat) : byt (four n) := fun x hx => by
  obtain ⟨i, _, rfl⟩ := List.mem_map.1 hx
  exact Nat.mod_lt _ (by decide)
/-- So many bytes of a row, and zeros behind them. -/
def pad (m : Nat) (w : List Nat) : List Nat := w.take m ++ List.replicate (m - min w.length m) 0
theorem pad_len (m : Nat) (w : List Nat) : (pad m w).length = m := by simp [pad]; omega
theorem pad_byt {w : List Nat} (h : byt w) (m : Nat) : byt (pad m w) := (h.take m).app (byt.rep _)
def sec0 (p : List Nat) : List Nat := four p.length ++ (pad 59 p ++ [1])
def secJ (p : List Nat) : Nat → List Nat
  | 0 => sec0 p
  | j + 1 => pad 64 (p.drop (59 + 64 * j))
theorem secJ_byt {p : List Nat} (h : byt p) : ∀ j, byt (secJ p j)
  | 0 => (four_byt _).app ((pad_byt h 59).app fun x hx => by simp at hx; omega)
  | j + 1 => pad_byt (h.drop _) 64
theorem secJ_len (p : List Nat) : ∀ j, (secJ p j).length = 64
  | 0 => by simp [secJ, sec0, pad_len, four]
  | j + 1 => pad_len 64 _
def laidV (p : Str) : List Str := (List.range (secN p.length)).map fun j => (secJ (nb p) j).map UInt8.ofNat
theorem laidV_len (p : Str) : (laidV p).length = secN p.length := by simp [laidV]
theorem copy0 (p : Str) : (hs p.length 4).take 4 ++ (p.take (min p.length 59)).map UInt8.toNat ++ (hs p.length 4).drop (4 + min p.length 59) = four p.length ++ ((nb p).take 59 ++ List.replicate (60 - min p.length 59) 0) := by
  rw [hs_four]
  have h1 : (four p.length).length = 4 := by simp [four]
  rw [List.take_append_of_le_length (by omega), List.take_of_length_le (by omega), List.append_assoc]
  congr 1
  congr 1
  · rw [nb, ← List.map_take]
    congr 1
    by_cases h : p.length ≤ 59
    · rw [List.take_of_length_le (by omega), List.take_of_length_le (by omega)]
    · rw [show min p.length 59 = 59 by omega]
  · rw [← h1, List.drop_append, h1, List.drop_of_length_le (by omega), List.nil_append, List.drop_replicate]
    congr 1; omega
theorem set63 (p : Str) : (four p.length ++ ((nb p).take 59 ++ List.replicate (60 - min p.length 59) 0)).set 63 1 = sec0 (nb p) := by
  have h1 : (four p.length).length = 4 := by simp [four]
  have hn := nb_len p
  have h2 : ((nb p).take 59).length = min p.length 59 := by rw [List.length_take, hn]; omega
  rw [List.set_append_right _ _ (by omega), h1, List.set_append_right _ _ (by omega), h2]
  unfold sec0 pad
  rw [hn, List.append_assoc]
  congr 2
  have e : 60 - min p.length 59 = (59 - min p.length 59) + 1 := by omega
  rw [e, List.replicate_succ']
  rw [List.set_append_right _ _ (by simp only [List.length_replicate]; omega)]
  congr 1
  simp only [List.length_replicate]
  rw [show 63 - 4 - min p.length 59 - (59 - min p.length 59) = 0 by omega]
  rfl
theorem copyJ (p : Str) (j : Nat) : (List.replicate 64 0).take 0 ++ ((p.drop (min p.length (59 + 64 * j))).take (min (p.length - min p.length (59 + 64 * j)) 64)).map UInt8.toNat ++ (List.replicate 64 0).drop (0 + min (p.length - min p.length (59 + 64 * j)) 64) = secJ (nb p) (j + 1) := by
  have hn := nb_len p
  show _ = pad 64 ((nb p).drop (59 + 64 * j))
  unfold pad
  rw [List.take_zero, List.nil_append, List.drop_replicate, List.length_drop, hn]
  by_cases h : p.length ≤ 59 + 64 * j
  · rw [show min p.length (59 + 64 * j) = p.length by omega, List.drop_of_length_le (Nat.le_refl _), List.drop_of_length_le (by omega)]
    rw [show p.length - p.length = 0 by omega, show p.length - (59 + 64 * j) = 0 by omega]
    simp
  · rw [show min p.length (59 + 64 * j) = 59 + 64 * j by omega]
    congr 1
    · rw [List.map_take, List.map_drop]
      by_cases h2 : p.length - (59 + 64 * j) ≤ 64
      · rw [List.take_of_length_le (by simp; omega), List.take_of_length_le (by simp [hn]; omega)]; rfl
      · rw [show min (p.length - (59 + 64 * j)) 64 = 64 by omega]; rfl
    · congr 1; omega
end Go.Proofs.Ytlbmlimaobkhpaa
/- The sectors of a record: the walk. -/
namespace Go.Proofs.Ytlbmlimaobkhpaa
open Go Go.Gv
set_option maxRecDepth 100000
set_option maxHeartbeats 4000000
set_option linter.unusedSimpArgs false
set_option linter.unusedVariables false

theorem laid_take {p : Str} {j : Nat} (h : j < secN p.length) : (laidV p).take j ++ [(secJ (nb p) j).map UInt8.ofNat] = (laidV p).take (j + 1) := by
  rw [take_succ (d := []) (by rw [laidV_len]; exact h)]
  congr 2
  unfold laidV
  rw [List.getD_eq_getElem?_getD, List.getElem?_map, List.getElem?_range h]; rfl
def LaidR (p : Str) (v : Value) (H : Hp) : Prop := ∃ B : Buf, v = .slice B.a (laidV p).length B.cap ∧ H = B.hp 9 ((laidV p).map sV) ∧ B.ok 1 ((laidV p).map sV) (laidV p).length
theorem f158 (p : Str) (hp : p.length < 1000000) (h : View) (O : Hp) : GSpec Try.prog 158 [sV p] h O (New O (LaidR p)) := by
  have hn := nb_len p
  have hsec : 1 ≤ secN p.length := by unfold secN; omega
  have hsec2 : secN p.length < 100000 := by unfold secN; omega
  refine GSpec.enter (fn := Try.f158) Try.func158 rfl (by kernel_rfl) ?_
  repeat' (conv => whnf
           first
           | (with_reducible refine NextSt.mk ?_)
           | ((with_reducible apply MakeSt.bN); (· rfl); (· rfl); (· exact natL _); (· exact natL _); (· (show 1 * _ ≤ _; omega)); (· omega); intro _b _hb _hbO))
  obtain ⟨bb, hbb⟩ : ∃ x, x = _b := ⟨_, rfl⟩
  subst hbb
  refine LoopSt.fix [4, 7, 8, 9, 10, 11, 12, 13, 14, 15, 16, 17, 18, 19] (fun (k : Nat) => [(7, iN k)]) (fun k => (bb, .cells ⟨(hs p.length k).map bN⟩ 5 (0, 0)) :: O) (fun k => k ≤ 4) (fun k => 4 - k) (0) _ (Wk.refl _ _) (rfl) ?_ ?_ ?_
  · repeat' (first | exact True.intro | refine And.intro ?_ ?_ | rfl)
  · exact Nat.zero_le _
  · intro k d hk
    have h1 := hs_len p.length k
    by_cases hk4 : k < 4
    · repeat' (conv => whnf
               first
               | (with_reducible refine NextSt.mk ?_)
               | (with_reducible refine OnBB.tt ?_)
               | ((with_reducible apply NW.addN); (· with_reducible rfl); (· exact natL _); (· omega))
               | ((with_reducible apply NW.mulN); (· exact natL _); (· with_reducible rfl); (· omega))
               | ((with_reducible apply NW.u8wN); (· with_reducible rfl))
               | ((with_reducible apply Cmp.yes); · omega)
               | ((with_reducible apply StoreSt.mapd); (· (repeat (exact Upd.hd))); (· (exact Nat.zero_add _)); (· rfl); (· rfl); (· (omega)); · (exact Or.inl (Nat.le_refl _)))
               | ((with_reducible apply ShSt.shrN); (· with_reducible rfl); (· with_reducible rfl); (· (simp only [IntKind.bits]; omega)))
               | ((with_reducible apply IdxSl.own1); (· rfl); (· with_reducible rfl); · (omega)))
      refine RoundFix.mk (k + 1) ?_ ?_ _ rfl (Wk.drop (by (try dsimp only); (try simp only [List.cons_append, List.nil_append]); (repeat (first | with_reducible exact List.Sublist.refl _ | apply List.Sublist.cons_cons)))) ?_
      · omega
      · repeat' (first | exact True.intro | refine And.intro ?_ ?_ | rfl)
      · omega
    · have : k = 4 := by omega
      subst this
      have hl2 : (four p.length ++ ((nb p).take 59 ++ List.replicate (60 - min p.length 59) 0)).length = 64 := by simp [four, hn]; omega
      repeat' (conv => whnf
               first
               | ((show CopySt _ _ 1 (Value.slice (some ⟨bb, 4, none⟩) 59 60) (.string ⟨⟨p⟩⟩) _ _ _); refine CopySt.str (by (repeat (exact Upd.hd))) (by rw [h1]; omega) (Or.inl (Nat.le_refl _)) ?_; rw [copy0])
               | (((with_reducible apply StoreSt.mapd (g := bN) (x := 1)); (· (repeat (exact Upd.hd))); (· ((simp only [Nat.zero_add, Nat.add_zero]; rfl))); (· rfl); (· rfl); (· rw [hl2]; omega); (· exact Or.inl (Nat.le_refl _))); rw [set63])
               | (refine ToStr.bytes (l := sec0 (nb p)) (Rd.own0 (by (repeat (first | exact List.Mem.head _ | with_reducible apply List.mem_append_right)))) (secJ_byt (nb_byt p) 0) (secJ_len _ 0) ?_)
               | ((show AppSt _ _ _ _ _ _ (.slice none 0 0) _ _ _ _); (apply AppSt.lit1 (b := Buf.nil) (g := sV) (xs := []) (x := (sec0 (nb p)).map UInt8.ofNat) (z := .string ⟨⟨[]⟩⟩)); (· exact Loc.hd (H := [])); (· exact Buf.nil_ok 1); (· (repeat (exact List.Mem.head _))); (· rfl); (· rfl); (· rfl); (· rfl); (· rfl); (· rfl); (· (show _ * 16 ≤ _; omega)); (· omega); intro _B _hB)
               | (with_reducible refine NextSt.mk ?_)
               | (with_reducible refine OnBB.ff ?_)
               | ((with_reducible apply Cmp.no); · omega)
               | ((with_reducible refine AllocSt.mk ?_); intro _b _hb _hbO)
               | ((with_reducible apply IdxSl.own1); (· rfl); (· exact natL _); · (omega))
               | ((with_reducible apply SlSl.lohi); (· exact natL _); (· exact natL _); (· (omega)); (· (omega))))
      rw [show (([] ++ [(sec0 (nb p)).map UInt8.ofNat]) : List Str) = (laidV p).take (0 + 1) from by rw [← laid_take (by omega)]; rfl] at _hB ⊢
      refine LoopSt.fix [2, 5, 31, 32, 33, 34, 35, 36, 37, 38, 39, 40, 41, 42, 43, 44, 45, 46, 47, 48, 49] (fun ((i, B) : Nat × Buf) => [(2, .slice B.a (i + 1) B.cap), (5, iN (min p.length (59 + 64 * i)))]) (fun (i, B) => B.hp 9 (((laidV p).take (i + 1)).map sV) ++ ((bb, .cells ⟨(secJ (nb p) i).map bN⟩ 5 (0, 0)) :: O)) (fun (i, B) => i + 1 ≤ secN p.length ∧ B.ok 1 (((laidV p).take (i + 1)).map sV) (i + 1)) (fun (i, B) => secN p.length - i) ((0, _B)) _ (Wk.drop (by (try dsimp only); (try simp only [List.cons_append, List.nil_append]); (repeat (first | with_reducible exact List.Sublist.refl _ | with_reducible apply sub_app | apply List.Sublist.cons_cons | with_reducible apply List.Sublist.cons)))) (rfl) ?_ ?_ ?_
      · repeat' (first | exact True.intro | refine And.intro ?_ ?_ | rfl)
      · exact ⟨by omega, _hB⟩
      · rintro ⟨i, B⟩ d ⟨hi, hB⟩
        dsimp only at hi hB ⊢
        by_cases hin : i + 1 < secN p.length
        · repeat' (conv => whnf
                   first
                   | (refine ClearSt.own1 (g := bN) 0 (by (repeat (first | exact Upd.hd | apply Upd.tl | apply Upd.app))) (secJ_len _ _) (Nat.le_refl _) rfl rfl ?_)
                   | ((show CopySt _ _ 1 (Value.slice (some ⟨bb, 0, none⟩) 64 64) (.string ⟨⟨p.drop (min p.length (59 + 64 * i))⟩⟩) _ _ _); refine CopySt.str (by (repeat (first | exact Upd.hd | apply Upd.app))) (by simp) (Or.inl (Nat.le_refl _)) ?_; rw [List.length_drop, copyJ])
                   | (refine ToStr.bytes (l := secJ (nb p) (i + 1)) (Rd.appR (Rd.own0 (by (repeat (first | exact List.Mem.head _ | with_reducible apply List.mem_append_right))))) (secJ_byt (nb_byt p) _) (secJ_len _ _) ?_)
                   | ((with_reducible apply CallSt.rd (f := 120)); · (apply GSpec.cast (sp := f120 _ ?_ _ _); (· (repeat' (rfl))); all_goals (with_reducible assumption)))
                   | (with_reducible refine NextSt.mk ?_)
                   | (with_reducible refine OnBB.tt ?_)
                   | ((with_reducible apply NW.addN); (· with_reducible rfl); (· with_reducible rfl); (· omega))
                   | ((with_reducible apply Cmp.yes); · omega)
                   | ((with_reducible refine AllocSt.mk ?_); intro _b _hb _hbO)
                   | ((with_reducible apply AppSt.lit1 (g := sV) (z := .string ⟨⟨[]⟩⟩)); (· (repeat (first | with_reducible exact Loc.hd | with_reducible apply Loc.tl))); (· with_reducible assumption); (· (repeat (exact List.Mem.head _))); (· rfl); (· rfl); (· rfl); (· rfl); (· rfl); (· rfl); (· (show _ * 16 ≤ _; omega)); (· omega); intro _B _hB)
                   | ((with_reducible apply StrSl.loN); (· (omega))))
          rw [laid_take hin] at _hB ⊢
          refine RoundFix.mk ((i + 1, _B)) ?_ ?_ _ rfl (Wk.drop (by (try dsimp only); (try simp only [List.cons_append, List.nil_append]); (repeat (first | with_reducible exact List.Sublist.refl _ | with_reducible apply List.Sublist.cons)))) ?_
          · dsimp only; omega
          · repeat' (first | exact True.intro | refine And.intro ?_ ?_ | rfl | exact congrArg (Value.int _) (by omega))
          · exact ⟨by omega, _hB⟩
        · have hall : (laidV p).take (i + 1) = laidV p := List.take_of_length_le (by rw [laidV_len]; omega)
          have hlen : i + 1 = (laidV p).length := by rw [laidV_len]; omega
          rw [hall] at hB ⊢
          rw [hlen] at hB
          repeat' (conv => whnf
                   first
                   | ((with_reducible apply CallSt.rd (f := 120)); · (apply GSpec.cast (sp := f120 _ ?_ _ _); (· (repeat' (rfl))); all_goals (with_reducible assumption)))
                   | (with_reducible refine NextSt.mk ?_)
                   | (with_reducible refine OnBB.ff ?_)
                   | ((with_reducible apply Cmp.no); · omega))
          refine FinSt.new (H := B.hp 9 ((laidV p).map sV)) (R := LaidR p) (by (try dsimp only); (try simp only [List.cons_append, List.nil_append]); (repeat (first | with_reducible exact List.Sublist.refl _ | with_reducible apply sub_app | with_reducible apply List.Sublist.cons))) ⟨B, ?_, rfl, hB⟩
          rw [hlen]
end Go.Proofs.Ytlbmlimaobkhpaa
/- Books: what they do. No program in sight. -/
namespace Go.Proofs.Ytlbmlimaobkhpaa
set_option linter.unusedSimpArgs false
set_option linter.unusedVariables false
namespace Dk
/-- A disk that is as it should be, and has seen at most B writes and falls. -/
structure okB (B : Nat) (d : Dk) : Prop where
  safe : ∀ s ∈ d.safe, s.length = 64
  waits : ∀ w ∈ d.waits, w.1 < d.safe.length ∧ w.2.length = 64
  size : d.safe.length ≤ 4096
  armed : d.armed ≤ 9223372036854775807
  few : d.waits.length ≤ B ∧ d.falls ≤ B
theorem okB.ok {B : Nat} {d : Dk} (h : okB B d) (hB : B < 1000000000) : d.ok := ⟨h.safe, h.waits, h.size, h.armed, ⟨Nat.lt_of_le_of_lt h.few.1 hB, Nat.lt_of_le_of_lt h.few.2 hB⟩⟩
theorem okB.mono {B C : Nat} {d : Dk} (h : okB B d) (hB : B ≤ C) : okB C d := ⟨h.safe, h.waits, h.size, h.armed, ⟨Nat.le_trans h.few.1 hB, Nat.le_trans h.few.2 hB⟩⟩
theorem fall_falls (d : Dk) : d.fall.falls ≤ d.falls + 1 := by unfold fall; simp only; split <;> omega
theorem okB.fall {B : Nat} {d : Dk} (h : okB B d) : okB (B + 1) d.fall :=
  ⟨h.safe, h.waits, h.size, Nat.zero_le _, ⟨Nat.le_trans h.few.1 (Nat.le_succ _), Nat.le_trans (fall_falls d) (Nat.succ_le_succ h.few.2)⟩⟩
theorem okB.strike {B : Nat} {d : Dk} (h : okB B d) : okB (B + 1) d.strike.1 := by
  unfold Dk.strike
  split
  · exact h.mono (Nat.le_succ _)
  · split
    · exact h.fall
    · exact ⟨h.safe, h.waits, h.size, by have := h.armed; show d.armed - 1 ≤ _; omega, ⟨Nat.le_trans h.few.1 (Nat.le_succ _), Nat.le_trans h.few.2 (Nat.le_succ _)⟩⟩
theorem strike_safe (d : Dk) : d.strike.1.safe = d.safe := by
  unfold Dk.strike
  split
  · rfl
  · split <;> rfl
theorem strike_waits (d : Dk) : d.strike.1.waits = d.waits := by
  unfold Dk.strike
  split
  · rfl
  · split <;> rfl
theorem err_zero {d : Dk} {a : Int} (h : d.err a = 0) : d.off = false ∧ 0 ≤ a ∧ a < d.safe.length := by
  unfold Dk.err at h
  split at h
  · cases h
  · rename_i ho
    split at h
    · rename_i h1; exact ⟨by simpa using ho, h1.1, h1.2⟩
    · cases h
theorem settle_ok : ∀ (l : List (Nat × Str)) (s : List Str), (∀ x ∈ s, x.length = 64) → (∀ w ∈ l, w.2.length = 64) → ∀ x ∈ settle s l, x.length = 64
  | [], _, h, _ => h
  | w :: l, s, h, hl => settle_ok l (s.set w.1 w.2) (fun x hx => by
      rcases List.mem_or_eq_of_mem_set hx with h1 | h1
      · exact h x h1
      · rw [h1]; exact hl w (by simp)) fun v hv => hl v (by simp [hv])
theorem settle_length : ∀ (l : List (Nat × Str)) (s : List Str), (settle s l).length = s.length
  | [], _ => rfl
  | w :: l, s => by
    show (settle (s.set w.1 w.2) l).length = _
    rw [settle_length l, List.length_set]
theorem okB.write {B : Nat} {d : Dk} (h : okB B d) (a : Int) (s : Str) : okB (B + 1) (d.write a s).1 := by
  unfold Dk.write
  split
  · exact h.mono (Nat.le_succ _)
  · rename_i he
    split
    · exact h.mono (Nat.le_succ _)
    · rename_i hs
      obtain ⟨_, a1, a2⟩ := err_zero (d := d) (a := a) (by omega)
      have e : okB (B + 1) { d with waits := d.waits ++ [(a.toNat, s)] } := ⟨h.safe, fun w hw => by
        rcases List.mem_append.1 hw with h1 | h1
        · exact h.waits w h1
        · rw [List.mem_singleton.1 h1]; exact ⟨by show a.toNat < d.safe.length; omega, by show s.length = 64; omega⟩, h.size, h.armed, ⟨by simp; exact h.few.1, Nat.le_trans h.few.2 (Nat.le_succ _)⟩⟩
      refine ⟨?_, ?_, ?_, ?_, ?_, ?_⟩
      · show ∀ x ∈ (Dk.strike _).1.safe, _; rw [strike_safe]; exact h.safe
      · show ∀ w ∈ (Dk.strike _).1.waits, w.1 < (Dk.strike _).1.safe.length ∧ _; rw [strike_safe, strike_waits]; exact e.waits
      · show (Dk.strike _).1.safe.length ≤ _; rw [strike_safe]; exact h.size
      · exact e.strike.armed
      · show (Dk.strike _).1.waits.length ≤ _; rw [strike_waits]; exact e.few.1
      · have h1 := h.few.2
        show (Dk.strike _).1.falls ≤ _
        unfold Dk.strike
        split
        · show d.falls ≤ _; omega
        · split
          · exact Nat.le_trans (fall_falls _) (by show d.falls + 1 ≤ _; omega)
          · show d.falls ≤ _; omega
theorem okB.sync {B : Nat} {d : Dk} (h : okB B d) : okB (B + 1) d.sync.1 := by
  unfold Dk.sync
  split
  · exact h.mono (Nat.le_succ _)
  · split
    · exact h.strike
    · have e := h.strike
      refine ⟨settle_ok _ _ h.safe fun w hw => (h.waits w hw).2, fun w hw => (by cases hw), by rw [settle_length]; exact h.size, e.armed, ⟨Nat.zero_le _, e.few.2⟩⟩
theorem okB.mk0 {n : Nat} (hn : n ≤ 4096) : okB 0 (Dk.mk0 n) := ⟨fun s hs => by
  have := List.eq_of_mem_replicate hs
  rw [this]; rfl, fun w hw => (by cases hw), by show (List.replicate n zs).length ≤ _; simpa using hn, Nat.zero_le _, ⟨Nat.le_refl _, Nat.le_refl _⟩⟩

/-! ### sequences of writes and syncs -/
/-- A write, or a sync. -/
abbrev Op := Option (Nat × Str)
def op (d : Dk) : Op → Dk × Int
  | some (i, s) => d.write i s
  | none => d.sync
def ops (d : Dk) : List Op → Dk × Int
  | [] => (d, 0)
  | o :: l => if (d.op o).2 = 0 then (d.op o).1.ops l else d.op o
theorem okB.op {B : Nat} {d : Dk} (h : okB B d) : ∀ o, okB (B + 1) (d.op o).1
  | some (i, s) => h.write i s
  | none => h.sync
theorem okB.ops : ∀ (l : List Op) {B : Nat} {d : Dk}, okB B d → okB (B + l.length) (d.ops l).1
  | [], _, _, h => h
  | o :: l, B, d, h => by
    show okB _ (if (d.op o).2 = 0 then (d.op o).1.ops l else d.op o).1
    split
    · have := okB.ops l (h.op o)
      exact this.mono (by simp; omega)
    · exact (h.op o).mono (by simp)
theorem ops_app (l m : List Op) : ∀ d : Dk, d.ops (l ++ m) = if (d.ops l).2 = 0 then (d.ops l).1.ops m else d.ops l := by
  induction l with
  | nil => intro d; rfl
  | cons o l ih =>
    intro d
    show (if (d.op o).2 = 0 then (d.op o).1.ops (l ++ m) else d.op o) = if (if (d.op o).2 = 0 then (d.op o).1.ops l else d.op o).2 = 0 then _ else _
    by_cases h : (d.op o).2 = 0
    · simp only [if_pos h, ih]
      show _ = if _ then (if (d.op o).2 = 0 then (d.op o).1.ops l else d.op o).1.ops m else (if (d.op o).2 = 0 then (d.op o).1.ops l else d.op o)
      rw [if_pos h]
    · simp only [if_neg h]
      show _ = (if (d.op o).2 = 0 then (d.op o).1.ops l else d.op o)
      rw [if_neg h]
theorem ops_cons0 {d : Dk} {o : Op} (h : (d.op o).2 = 0) (l : List Op) : d.ops (o :: l) = (d.op o).1.ops l := if_pos h
theorem ops_cons1 {d : Dk} {o : Op} (h : (d.op o).2 ≠ 0) (l : List Op) : d.ops (o :: l) = d.op o := if_neg h
theorem seq4 (d : Dk) (i j : Nat) (z l : Str) : d.ops [some (i, z), none, some (j, l), none] =
    if (d.write i z).2 = 0 then if (d.write i z).1.sync.2 = 0 then if ((d.write i z).1.sync.1.write j l).2 = 0 then ((d.write i z).1.sync.1.write j l).1.sync else (d.write i z).1.sync.1.write j l else (d.write i z).1.sync else d.write i z := by
  show (if (d.write i z).2 = 0 then if (d.write i z).1.sync.2 = 0 then if ((d.write i z).1.sync.1.write j l).2 = 0 then ops ((d.write i z).1.sync.1.write j l).1 [none] else _ else _ else _) = _
  rw [show ops ((d.write i z).1.sync.1.write j l).1 [none] = ((d.write i z).1.sync.1.write j l).1.sync from by
    show (if (((d.write i z).1.sync.1.write j l).1.sync).2 = 0 then ((((d.write i z).1.sync.1.write j l).1.sync).1, (0 : Int)) else _) = _
    split
    · rename_i h; exact Prod.ext rfl h.symm
    · rfl]
  rfl
theorem seq3 (d : Dk) (j : Nat) (l : Str) : d.ops [none, some (j, l), none] =
    if d.sync.2 = 0 then if (d.sync.1.write j l).2 = 0 then (d.sync.1.write j l).1.sync else d.sync.1.write j l else d.sync := by
  show (if d.sync.2 = 0 then if (d.sync.1.write j l).2 = 0 then ops (d.sync.1.write j l).1 [none] else _ else _) = _
  rw [show ops (d.sync.1.write j l).1 [none] = (d.sync.1.write j l).1.sync from by
    show (if ((d.sync.1.write j l).1.sync).2 = 0 then (((d.sync.1.write j l).1.sync).1, (0 : Int)) else _) = _
    split
    · rename_i h; exact Prod.ext rfl h.symm
    · rfl]
  rfl
theorem ops_one (d : Dk) (o : Op) : d.ops [o] = d.op o := by
  show (if (d.op o).2 = 0 then ((d.op o).1, (0 : Int)) else d.op o) = d.op o
  split
  · rename_i h
    exact Prod.ext rfl h.symm
  · rfl
theorem ops_take {d : Dk} {l : List Op} {k : Nat} (h : k < l.length) (h0 : (d.ops (l.take k)).2 = 0) : d.ops (l.take (k + 1)) = (d.ops (l.take k)).1.op (l.getD k none) := by
  rw [take_succ (d := none) h, ops_app, if_pos h0, ops_one]
theorem ops_stop {d : Dk} {l : List Op} {k : Nat} (h0 : (d.ops (l.take k)).2 ≠ 0) (m : List Op) : d.ops (l ++ m) = d.ops (l.take k) := by
  conv => lhs; rw [← List.take_append_drop k l, List.append_assoc, ops_app, if_neg h0]
theorem op_len (d : Dk) : ∀ o, (d.op o).1.safe.length = d.safe.length
  | some (i, s) => by
    show (d.write i s).1.safe.length = _
    unfold Dk.write
    split
    · rfl
    · split
      · rfl
      · show (strike _).1.safe.length = _; rw [strike_safe]
  | none => by
    show d.sync.1.safe.length = _
    unfold Dk.sync
    split
    · rfl
    · split
      · rw [strike_safe]
      · rw [settle_length]
theorem ops_len : ∀ (l : List Op) (d : Dk), (d.ops l).1.safe.length = d.safe.length
  | [], _ => rfl
  | o :: l, d => by
    show (if (d.op o).2 = 0 then (d.op o).1.ops l else d.op o).1.safe.length = _
    split
    · rw [ops_len l, op_len]
    · exact op_len d o
end Dk

/-! ### records -/
/-- The writes of a record but the first. -/
def wrs (at_ : Nat) (p : Str) : List Dk.Op := (List.range (secN p.length - 1)).map fun i => some (at_ + 1 + i, ((laidV p).drop 1).getD i [])
/-- The writes and syncs of a record on a disk of n sectors. -/
def kops (n at_ : Nat) (p : Str) : List Dk.Op :=
  wrs at_ p ++ ((if at_ + secN p.length < n then [some (at_ + secN p.length, zs)] else []) ++ [none, some (at_, (laidV p).getD 0 []), none])
def keepV (d : Dk) (at_ : Nat) (p : Str) : Dk × Int :=
  if d.safe.length < at_ + secN p.length then (d, 94) else d.ops (kops d.safe.length at_ p)
theorem wrs_len (at_ : Nat) (p : Str) : (wrs at_ p).length = secN p.length - 1 := by simp [wrs]
theorem wrs_get {at_ : Nat} {p : Str} {i : Nat} (h : i < secN p.length - 1) : (wrs at_ p).getD i none = some (at_ + 1 + i, ((laidV p).drop 1).getD i []) := by
  unfold wrs
  rw [List.getD_eq_getElem?_getD, List.getElem?_map, List.getElem?_range h]; rfl
theorem laidV_mem {p : Str} : ∀ s ∈ laidV p, s.length = 64 := fun s hs => by
  obtain ⟨j, _, rfl⟩ := List.mem_map.1 hs
  rw [List.length_map, secJ_len]
theorem laidV_get (p : Str) (i : Nat) : ((laidV p).getD i []).length ≤ 64 := by
  rw [List.getD_eq_getElem?_getD]
  cases h : (laidV p)[i]? with
  | none => exact Nat.zero_le _
  | some s => exact Nat.le_of_eq (laidV_mem s (List.mem_of_getElem? h))
theorem laidV_get1 (p : Str) (i : Nat) : (((laidV p).drop 1).getD i []).length ≤ 64 := by
  rw [List.getD_eq_getElem?_getD, List.getElem?_drop, ← List.getD_eq_getElem?_getD]; exact laidV_get p _
theorem kops_len (n at_ : Nat) (p : Str) : (kops n at_ p).length ≤ secN p.length + 3 := by
  have : 1 ≤ secN p.length := by unfold secN; omega
  simp only [kops, List.length_append, wrs_len]
  split <;> simp <;> omega
theorem keepV_okB {B : Nat} {d : Dk} (h : d.okB B) (at_ : Nat) (p : Str) : (keepV d at_ p).1.okB (B + secN p.length + 3) := by
  unfold keepV
  split
  · exact h.mono (by omega)
  · exact (Dk.okB.ops _ h).mono (by have := kops_len d.safe.length at_ p; omega)
theorem keepV_len (d : Dk) (at_ : Nat) (p : Str) : (keepV d at_ p).1.safe.length = d.safe.length := by
  unfold keepV
  split
  · rfl
  · exact Dk.ops_len _ _
end Go.Proofs.Ytlbmlimaobkhpaa
/- Books: which messages change them, and how. No program in sight. -/
namespace Go.Proofs.Ytlbmlimaobkhpaa
set_option linter.unusedSimpArgs false
set_option linter.unusedVariables false
instance : Inhabited En := ⟨⟨0, 0, []⟩⟩
/-- A message that changes a book with these logs. -/
def chg (logs : List (List En)) (e : En) : Prop :=
  enOk e ∧ e.office.toNat < logs.length ∧ (e.no.toNat = (logs.getD e.office.toNat []).length ∨
    e.no.toNat < (logs.getD e.office.toNat []).length ∧ Op.bytesLess e.body ((logs.getD e.office.toNat []).getD e.no.toNat default).body = true)
instance (logs : List (List En)) (e : En) : Decidable (chg logs e) := by unfold chg; infer_instance
def put1 (l : List En) (e : En) : List En := if e.no.toNat = l.length then l ++ [e] else l.set e.no.toNat e
def chgd (logs : List (List En)) (e : En) : List (List En) := logs.set e.office.toNat (put1 (logs.getD e.office.toNat []) e)
/-- Logs as a book has them. -/
structure wfL (logs : List (List En)) : Prop where
  len : logs.length ≤ 8
  log : ∀ p < logs.length, (logs.getD p []).length ≤ 64
  en : ∀ p < logs.length, ∀ i < (logs.getD p []).length, enOk ((logs.getD p []).getD i default) ∧ ((logs.getD p []).getD i default).office = p ∧ ((logs.getD p []).getD i default).no = i
theorem getD_setL {α : Type} {l : List α} {i j : Nat} {x d : α} : (l.set i x).getD j d = if i = j ∧ i < l.length then x else l.getD j d := by
  simp only [List.getD_eq_getElem?_getD, List.getElem?_set]
  by_cases h : i = j
  · subst h
    by_cases h2 : i < l.length
    · simp [h2]
    · simp [h2, List.getElem?_eq_none (by omega : l.length ≤ i)]
  · simp [h]
theorem getD_snoc {α : Type} {l : List α} {j : Nat} {x d : α} : (l ++ [x]).getD j d = if j = l.length then x else l.getD j d := by
  simp only [List.getD_eq_getElem?_getD]
  by_cases h : j < l.length
  · rw [List.getElem?_append_left h, if_neg (by omega)]
  · by_cases h2 : j = l.length
    · subst h2; rw [if_pos rfl, List.getElem?_append_right (Nat.le_refl _)]; simp
    · rw [if_neg h2, List.getElem?_eq_none (by simp; omega), List.getElem?_eq_none (by omega)]
theorem put1_len {l : List En} {e : En} (h : e.no.toNat = l.length ∨ e.no.toNat < l.length) : (put1 l e).length = max l.length (e.no.toNat + 1) := by
  unfold put1
  split
  · simp; omega
  · simp; omega
theorem put1_get {l : List En} {e : En} (h : e.no.toNat = l.length ∨ e.no.toNat < l.length) (i : Nat) : (put1 l e).getD i default = if i = e.no.toNat then e else l.getD i default := by
  unfold put1
  split
  · rename_i h1
    rw [getD_snoc, h1]
  · rename_i h1
    rw [getD_setL]
    by_cases hi : i = e.no.toNat
    · rw [if_pos hi, if_pos ⟨hi.symm, by omega⟩]
    · rw [if_neg hi, if_neg (by omega)]
theorem chgd_get {logs : List (List En)} {e : En} (h : e.office.toNat < logs.length) (p : Nat) : (chgd logs e).getD p [] = if p = e.office.toNat then put1 (logs.getD p []) e else logs.getD p [] := by
  unfold chgd
  rw [getD_setL]
  by_cases hp : p = e.office.toNat
  · subst hp; rw [if_pos rfl, if_pos ⟨rfl, h⟩]
  · rw [if_neg hp, if_neg (by omega)]
theorem chgd_len (logs : List (List En)) (e : En) : (chgd logs e).length = logs.length := by simp [chgd]
theorem wfL.chgd {logs : List (List En)} {e : En} (hw : wfL logs) (h : chg logs e) : wfL (chgd logs e) := by
  obtain ⟨⟨a1, a2, a3, a4, a5⟩, h2, h3⟩ := h
  have h4 : e.no.toNat = (logs.getD e.office.toNat []).length ∨ e.no.toNat < (logs.getD e.office.toNat []).length := h3.imp id And.left
  refine ⟨by rw [chgd_len]; exact hw.len, fun p hp => ?_, fun p hp i hi => ?_⟩
  · rw [chgd_len] at hp
    rw [chgd_get h2]
    split
    · rename_i e1; subst e1
      rw [put1_len h4]
      have := hw.log _ hp
      omega
    · exact hw.log p hp
  · rw [chgd_len] at hp
    rw [chgd_get h2] at hi ⊢
    split at hi
    · rename_i e1; subst e1
      rw [if_pos rfl, put1_get h4]
      rw [put1_len h4] at hi
      split
      · rename_i e2; subst e2
        exact ⟨⟨a1, a2, a3, a4, a5⟩, by omega, by omega⟩
      · exact hw.en _ hp i (by omega)
    · rename_i e1
      rw [if_neg e1]
      exact hw.en p hp i hi
theorem wfL.nil {n : Nat} (h : n ≤ 8) : wfL (List.replicate n []) := by
  refine ⟨by simpa using h, fun p hp => ?_, fun p hp i hi => ?_⟩
  · rw [List.getD_eq_getElem?_getD, List.getElem?_replicate]; split <;> simp
  · rw [List.getD_eq_getElem?_getD, List.getElem?_replicate] at hi; split at hi <;> simp at hi
end Go.Proofs.Ytlbmlimaobkhpaa
/- Writing a record. -/
namespace Go.Proofs.Ytlbmlimaobkhpaa
open Go Go.Gv
set_option maxRecDepth 100000
set_option maxHeartbeats 4000000
set_option linter.unusedSimpArgs false
set_option linter.unusedVariables false

/-- A book's own block: its logs, its disk, the sector behind the last record, the falls that it knows. -/
abbrev bkc (p : Nat) (L : Value) (q at_ falls : Nat) : Nat × Obj := (p, .cells ⟨[L, .pointer (some ⟨q, 0, none⟩), iN at_, iN falls]⟩ 158 (0, 0))
def pP (p : Nat) : Value := .pointer (some ⟨p, 0, none⟩)
def KeepR (p : Nat) (L : Value) (r : Dr) (d : Dk) (at_ falls : Nat) (pay : Str) (v : Value) (O' : Hp) : Prop :=
  ∃ r', r'.p = r.p ∧ dOk r' (keepV d at_ pay).1 ∧ O' = dHp r' (keepV d at_ pay).1 ++ [bkc p L r.p (if (keepV d at_ pay).2 = 0 then at_ + secN pay.length else at_) falls] ∧ v = .int .i64 (keepV d at_ pay).2
theorem KeepR.no {p : Nat} {L : Value} {r : Dr} {d : Dk} {at_ falls : Nat} {pay : Str} {sb wb : Buf} {x : Dk × Int} (hk : dOk ⟨r.p, sb, wb⟩ x.1) (e : keepV d at_ pay = x) (h : x.2 ≠ 0) : KeepR p L r d at_ falls pay (.int .i64 x.2) (dHp ⟨r.p, sb, wb⟩ x.1 ++ [bkc p L r.p at_ falls]) := by
  unfold KeepR
  rw [e, if_neg h]
  exact ⟨⟨r.p, sb, wb⟩, rfl, hk, rfl, rfl⟩
theorem KeepR.yes {p : Nat} {L : Value} {r : Dr} {d : Dk} {at_ falls : Nat} {pay : Str} {sb wb : Buf} {x : Dk × Int} (hk : dOk ⟨r.p, sb, wb⟩ x.1) (e : keepV d at_ pay = x) (h : x.2 = 0) : KeepR p L r d at_ falls pay (.int .i64 0) (dHp ⟨r.p, sb, wb⟩ x.1 ++ [bkc p L r.p (at_ + secN pay.length) falls]) := by
  unfold KeepR
  rw [e, if_pos h, h]
  exact ⟨⟨r.p, sb, wb⟩, rfl, hk, rfl, rfl⟩
theorem f133 (p : Nat) (L : Value) (r : Dr) (d : Dk) (at_ falls B : Nat) (pay : Str) (hp : pay.length < 1000000) (hat : at_ < 100000000) (hd : d.okB B) (hB : B + secN pay.length + 3 < 1000000000) (hk : dOk r d) (h : View) :
    GSpec Try.prog 133 [pP p, sV pay] h (dHp r d ++ [bkc p L r.p at_ falls]) (fun v _ O' => KeepR p L r d at_ falls pay v O') := by
  have hll := laidV_len pay
  have hsz := hd.size
  have hsec : 1 ≤ secN pay.length ∧ secN pay.length < 100000 := by unfold secN; omega
  by_cases hfull : d.safe.length < at_ + secN pay.length
  · have e : keepV d at_ pay = (d, 94) := if_pos hfull
    refine GSpec.enter (fn := Try.f133) Try.func133 rfl (by kernel_rfl) ?_
    repeat' (conv => whnf
             first
             | ((apply CallSt.new (f158 pay hp _ _); rintro _ _ ⟨B, rfl, rfl, hB⟩))
             | ((with_reducible refine CallG.rd (f := 49) (X := iN d.safe.length) ?_ ?_); (· exact GSpec.locRet (by (repeat (first | with_reducible exact Loc.hd | with_reducible apply Loc.skip))) (f49 r d _)))
             | ((with_reducible refine DrawSt.walk [0, 1, 2, 3, 4, 5, 6, 7, 8, 9, 10, 11, 12] mixed ?_ ?_); · decide +kernel)
             | (with_reducible refine NextSt.mk ?_)
             | (with_reducible refine OnBB.tt ?_)
             | ((with_reducible apply NW.addN); (· with_reducible rfl); (· with_reducible rfl); (· omega))
             | ((with_reducible apply Cmp.yes); · omega)
             | ((with_reducible apply LoadSt.box); · (repeat (first | exact List.Mem.head _ | with_reducible apply List.mem_append_right))))
    refine FinSt.own (R := KeepR p L r d at_ falls pay) (O1 := dHp r d ++ [bkc p L r.p at_ falls]) (by (try dsimp only); (try simp only [List.cons_append, List.nil_append]); (repeat (first | with_reducible exact List.Sublist.refl _ | with_reducible apply sub_skip))) ?_
    unfold KeepR
    rw [e]
    exact ⟨r, rfl, hk, rfl, rfl⟩
  · have e : keepV d at_ pay = d.ops (kops d.safe.length at_ pay) := if_neg hfull
    have hwl := wrs_len at_ pay
    refine GSpec.enter (fn := Try.f133) Try.func133 rfl (by kernel_rfl) ?_
    repeat' (conv => whnf
             first
             | ((apply CallSt.new (f158 pay hp _ _); rintro _ _ ⟨A, rfl, rfl, hA⟩; have hle := Buf.le hA))
             | (((with_reducible apply CallG.rd (f := 49)); (· (apply GSpec.locRet (H := dHp _ _)); (· (repeat (first | with_reducible exact Loc.hd | with_reducible apply Loc.skip))); (· exact f49 _ _ _))))
             | ((with_reducible refine DrawSt.walk [0, 1, 2, 3, 4, 5, 6, 7, 8, 9, 10, 11, 12] mixed ?_ ?_); · decide +kernel)
             | (with_reducible refine NextSt.mk ?_)
             | (with_reducible refine OnBB.ff ?_)
             | ((with_reducible apply NW.addN); (· with_reducible rfl); (· with_reducible rfl); (· omega))
             | ((with_reducible apply Cmp.no); · omega)
             | ((with_reducible apply LoadSt.box); · (repeat (first | exact List.Mem.head _ | with_reducible apply List.mem_append_right)))
             | ((with_reducible apply SlSl.lo); (· exact natL _); (· (omega)); (· (omega))))
    have hr0 := ((Buf.rd (h := h) (e := 9) hA).slice 1 A.cap 1 (fun e => by rw [List.length_map]; omega))
    rw [← List.map_drop] at hr0
    refine LoopSt.fix [4, 6, 7, 8, 32, 33, 34, 35, 36, 37, 38, 39, 40, 41, 42, 43, 44, 45, 46, 47, 48, 49, 50, 51, 52, 53] (fun ((k, sb, wb) : Nat × Buf × Buf) => [(32, iN k)]) (fun (k, sb, wb) => A.hp 9 ((laidV pay).map sV) ++ (dHp ⟨r.p, sb, wb⟩ (d.ops ((wrs at_ pay).take k)).1 ++ [bkc p L r.p at_ falls])) (fun (k, sb, wb) => k ≤ secN pay.length - 1 ∧ dOk ⟨r.p, sb, wb⟩ (d.ops ((wrs at_ pay).take k)).1 ∧ (d.ops ((wrs at_ pay).take k)).2 = 0) (fun (k, sb, wb) => secN pay.length - k) ((0, r.sb, r.wb)) _ (Wk.refl _ _) (rfl) ?_ ?_ ?_
    · repeat' (first | exact True.intro | refine And.intro ?_ ?_ | rfl)
    · exact ⟨Nat.zero_le _, hk, rfl⟩
    · rintro ⟨k, sb, wb⟩ d' ⟨hk1, hk2, hk3⟩
      dsimp only at hk1 hk2 hk3 ⊢
      by_cases hkm : k < secN pay.length - 1
      · repeat' (conv => whnf
                 first
                 | ((refine IdxSl.rd1 (j := k) hr0 rfl rfl (by omega) (by simp; omega) ?_))
                 | ((refine LoadSt.rdS (xs := (laidV pay).drop 1) (Rd.appL hr0) (by simp; omega) ?_); have hgl := laidV_get1 pay k; have hoo := hd.ops ((wrs at_ pay).take k); (rw [List.length_take] at hoo))
                 | (((with_reducible apply CallSt.loc (f := 36) (H := dHp _ _)); (· (repeat (first | with_reducible exact Loc.hd | with_reducible apply Loc.skip))); (· exact f36 _ _ _ _ (by (exact Dk.okB.ok (by repeat (assumption)) (by omega))) (by omega) (by assumption) _); rintro _ _ ⟨⟨_p, _sb, _wb⟩, _hp, rfl, _hk, rfl⟩; (obtain rfl : _p = _ := _hp)))
                 | ((with_reducible refine DrawSt.walkT [0, 1, 2, 3, 4, 5, 6, 7, 8, 9, 10, 11] 12 [13] mixed ?_ ?_); · decide +kernel)
                 | (with_reducible refine NextSt.mk ?_)
                 | (with_reducible refine OnBB.tt ?_)
                 | (with_reducible refine OnBB.ff ?_)
                 | ((with_reducible apply NW.addN); (· with_reducible rfl); (· first | with_reducible rfl | exact natL _); (· omega))
                 | ((with_reducible apply Cmp.yes); · omega)
                 | ((with_reducible apply LoadSt.box); · (repeat (first | exact List.Mem.head _ | with_reducible apply List.mem_append_right)))
                 | ((with_reducible refine Cmp.mk ?_ ?_) <;> intro _hc))
        all_goals have hts : d.ops ((wrs at_ pay).take (k + 1)) = (d.ops ((wrs at_ pay).take k)).1.write ((at_ + 1 + k : Nat) : Int) (((laidV pay).drop 1).getD k []) := by rw [Dk.ops_take (by omega) hk3, wrs_get hkm]; rfl
        · refine FinSt.own (R := KeepR p L r d at_ falls pay) (O1 := dHp ⟨r.p, _sb, _wb⟩ _ ++ [bkc p L r.p at_ falls]) (by (try dsimp only); (try simp only [List.cons_append, List.nil_append]); (repeat (first | with_reducible exact List.Sublist.refl _ | with_reducible apply sub_skip))) (KeepR.no _hk ?_ _hc)
          rw [e, ← hts]
          exact Dk.ops_stop (by rw [hts]; exact _hc) _
        · rw [← hts] at _hk _hc ⊢
          refine RoundFix.mk ((k + 1, _sb, _wb)) ?_ ?_ _ rfl (Wk.drop (by (try dsimp only); (try simp only [List.cons_append, List.nil_append]); (repeat (with_reducible exact List.Sublist.refl _)))) ?_
          · dsimp only; omega
          · repeat' (first | exact True.intro | refine And.intro ?_ ?_ | rfl)
          · exact ⟨by omega, _hk, Classical.not_not.1 _hc⟩
      · have hall : (wrs at_ pay).take k = wrs at_ pay := List.take_of_length_le (by omega)
        rw [hall] at hk2 hk3 ⊢
        have hd1 := hd.ops (wrs at_ pay)
        have hl1 := Dk.ops_len (wrs at_ pay) d
        have e1 : keepV d at_ pay = (d.ops (wrs at_ pay)).1.ops ((if at_ + secN pay.length < d.safe.length then [some (at_ + secN pay.length, zs)] else []) ++ [none, some (at_, (laidV pay).getD 0 []), none]) := by rw [e, kops, Dk.ops_app, if_pos hk3]
        have hg0 := laidV_get pay 0
        have hzs : zs.length = 64 := rfl
        generalize (d.ops (wrs at_ pay)).1 = d1 at hk2 hk3 hd1 hl1 e1 ⊢
        by_cases hz : at_ + secN pay.length < d.safe.length
        · rw [if_pos hz, ← hll, List.singleton_append, Dk.seq4] at e1
          repeat' (conv => whnf
                   first
                   | (((with_reducible apply CallSt.rd (f := 49)); (· (apply GSpec.locRet (H := dHp _ _)); (· (repeat (first | with_reducible exact Loc.hd | with_reducible apply Loc.skip))); (· exact f49 _ _ _))))
                   | (((with_reducible apply CallSt.loc (f := 36) (H := dHp _ _)); (· (repeat (first | with_reducible exact Loc.hd | with_reducible apply Loc.skip))); (· exact f36 _ _ _ _ (by (exact Dk.okB.ok (by repeat (first | assumption | with_reducible apply Dk.okB.write | with_reducible apply Dk.okB.sync)) (by omega))) (by omega) (by assumption) _); rintro _ _ ⟨⟨_p, _sb, _wb⟩, _hp, rfl, _hk, rfl⟩; (obtain rfl : _p = _ := _hp)))
                   | (((with_reducible apply CallSt.loc (f := 39) (H := dHp _ _)); (· (repeat (first | with_reducible exact Loc.hd | with_reducible apply Loc.skip))); (· exact f39 _ _ (by (exact Dk.okB.ok (by repeat (first | assumption | with_reducible apply Dk.okB.write | with_reducible apply Dk.okB.sync)) (by omega))) (by assumption) _); rintro _ _ ⟨⟨_p, _sb, _wb⟩, _hp, rfl, _hk, rfl⟩; (obtain rfl : _p = _ := _hp)))
                   | ((with_reducible refine DrawSt.walkT [0, 1, 2, 3, 4, 5, 6, 7, 8, 9, 10] 11 [12] mixed ?_ ?_); · decide +kernel)
                   | ((with_reducible refine DrawSt.walkT [0, 1, 2, 3, 4, 5] 6 [7] mixed ?_ ?_); · decide +kernel)
                   | ((with_reducible apply CallG.rd (f := 101)); · (apply GSpec.cast (sp := f101 _ _); (· (repeat' (with_reducible rfl))); all_goals (fail)))
                   | (with_reducible refine NextSt.mk ?_)
                   | (with_reducible refine OnBB.tt ?_)
                   | (with_reducible refine OnBB.ff ?_)
                   | ((with_reducible apply NW.addN); (· with_reducible rfl); (· with_reducible rfl); (· omega))
                   | ((with_reducible apply Cmp.yes); · omega)
                   | ((with_reducible apply Cmp.no); · omega)
                   | ((with_reducible apply LoadSt.box); · (repeat (first | exact List.Mem.head _ | with_reducible apply List.mem_append_right | with_reducible apply List.mem_cons_of_mem)))
                   | ((with_reducible apply LoadSt.rdS); (· (repeat ((with_reducible apply Rd.appL; with_reducible apply Buf.rd; with_reducible assumption)))); · (omega))
                   | ((with_reducible apply StoreSt.box); (· (repeat (first | exact Upd.hd | apply Upd.tl | apply Upd.app))); (· rfl); (· rfl); (· rfl))
                   | ((with_reducible apply IdxSl.buf1); (· with_reducible assumption); (· rfl); (· rfl); (· exact natL _); · (omega))
                   | ((with_reducible refine Cmp.mk ?_ ?_) <;> intro _hc))
          all_goals
            clear e
            revert hll
            simp only [Classical.not_not] at *
            simp only [*, if_true, if_false] at e1
            intro hll
            first
            | exact FinSt.own (R := KeepR p L r d at_ falls pay) (O1 := dHp ⟨r.p, _sb, _wb⟩ _ ++ [bkc p L r.p at_ falls]) (by (try dsimp only); (try simp only [List.cons_append, List.nil_append]); (repeat (first | with_reducible exact List.Sublist.refl _ | apply List.Sublist.cons_cons | apply sub_app | with_reducible apply List.Sublist.cons | with_reducible apply sub_skip))) (KeepR.no _hk e1 (by assumption))
            | exact FinSt.own (R := KeepR p L r d at_ falls pay) (O1 := dHp ⟨r.p, _sb, _wb⟩ _ ++ [bkc p L r.p (at_ + secN pay.length) falls]) (by rw [← hll]; (try dsimp only); (try simp only [List.cons_append, List.nil_append]); (repeat (first | with_reducible exact List.Sublist.refl _ | apply List.Sublist.cons_cons | apply sub_app | with_reducible apply sub_skip))) (KeepR.yes _hk e1 (by assumption))
        · rw [if_neg hz, List.nil_append, Dk.seq3] at e1
          repeat' (conv => whnf
                   first
                   | (((with_reducible apply CallSt.rd (f := 49)); (· (apply GSpec.locRet (H := dHp _ _)); (· (repeat (first | with_reducible exact Loc.hd | with_reducible apply Loc.skip))); (· exact f49 _ _ _))))
                   | (((with_reducible apply CallSt.loc (f := 36) (H := dHp _ _)); (· (repeat (first | with_reducible exact Loc.hd | with_reducible apply Loc.skip))); (· exact f36 _ _ _ _ (by (exact Dk.okB.ok (by repeat (first | assumption | with_reducible apply Dk.okB.sync)) (by omega))) (by omega) (by assumption) _); rintro _ _ ⟨⟨_p, _sb, _wb⟩, _hp, rfl, _hk, rfl⟩; (obtain rfl : _p = _ := _hp)))
                   | (((with_reducible apply CallSt.loc (f := 39) (H := dHp _ _)); (· (repeat (first | with_reducible exact Loc.hd | with_reducible apply Loc.skip))); (· exact f39 _ _ (by (exact Dk.okB.ok (by repeat (first | assumption | with_reducible apply Dk.okB.write | with_reducible apply Dk.okB.sync)) (by omega))) (by assumption) _); rintro _ _ ⟨⟨_p, _sb, _wb⟩, _hp, rfl, _hk, rfl⟩; (obtain rfl : _p = _ := _hp)))
                   | ((with_reducible refine DrawSt.walkT [0, 1, 2, 3, 4, 5, 6, 7, 8, 9, 10] 11 [12] mixed ?_ ?_); · decide +kernel)
                   | (with_reducible refine NextSt.mk ?_)
                   | (with_reducible refine OnBB.tt ?_)
                   | (with_reducible refine OnBB.ff ?_)
                   | ((with_reducible apply NW.addN); (· with_reducible rfl); (· with_reducible rfl); (· omega))
                   | ((with_reducible apply Cmp.no); · omega)
                   | ((with_reducible apply LoadSt.box); · (repeat (first | exact List.Mem.head _ | with_reducible apply List.mem_append_right | with_reducible apply List.mem_cons_of_mem)))
                   | ((with_reducible apply LoadSt.rdS); (· (repeat ((with_reducible apply Rd.appL; with_reducible apply Buf.rd; with_reducible assumption)))); · (omega))
                   | ((with_reducible apply StoreSt.box); (· (repeat (first | exact Upd.hd | apply Upd.tl | apply Upd.app))); (· rfl); (· rfl); (· rfl))
                   | ((with_reducible apply IdxSl.buf1); (· with_reducible assumption); (· rfl); (· rfl); (· exact natL _); · (omega))
                   | ((with_reducible refine Cmp.mk ?_ ?_) <;> intro _hc))
          all_goals
            clear e
            revert hll
            simp only [Classical.not_not] at *
            simp only [*, if_true, if_false] at e1
            intro hll
            first
            | exact FinSt.own (R := KeepR p L r d at_ falls pay) (O1 := dHp ⟨r.p, _sb, _wb⟩ _ ++ [bkc p L r.p at_ falls]) (by (try dsimp only); (try simp only [List.cons_append, List.nil_append]); (repeat (first | with_reducible exact List.Sublist.refl _ | apply List.Sublist.cons_cons | apply sub_app | with_reducible apply List.Sublist.cons | with_reducible apply sub_skip))) (KeepR.no _hk e1 (by assumption))
            | exact FinSt.own (R := KeepR p L r d at_ falls pay) (O1 := dHp ⟨r.p, _sb, _wb⟩ _ ++ [bkc p L r.p (at_ + secN pay.length) falls]) (by rw [← hll]; (try dsimp only); (try simp only [List.cons_append, List.nil_append]); (repeat (first | with_reducible exact List.Sublist.refl _ | apply List.Sublist.cons_cons | apply sub_app | with_reducible apply sub_skip))) (KeepR.yes _hk e1 (by assumption))
end Go.Proofs.Ytlbmlimaobkhpaa
/- The program's books: which messages change them. -/
namespace Go.Proofs.Ytlbmlimaobkhpaa
open Go Go.Gv
set_option maxRecDepth 100000
set_option maxHeartbeats 4000000
set_option linter.unusedSimpArgs false
set_option linter.unusedVariables false

instance : Inhabited Buf := ⟨Buf.nil⟩
abbrev Lg := Buf × List En
/-- The word of a log. -/
def slV (q : Lg) : Value := .slice q.1.a q.2.length q.1.cap
def lgHp (ls : List Lg) : Hp := ls.flatMap fun q => q.1.hp 70 (q.2.flatMap enV)
structure Br where
  p : Nat
  lp : Nat
  ls : List Lg
def bkV (b : Br) : Value := .slice (some ⟨b.lp, 0, none⟩) b.ls.length b.ls.length
abbrev lgc (b : Br) : Nat × Obj := (b.lp, .cells ⟨b.ls.map slV⟩ 63 (0, 0))
/-- A book's logs. -/
def Br.logs (b : Br) : List (List En) := b.ls.map Prod.snd
def lOk (ls : List Lg) : Prop := ∀ q ∈ ls, q.1.ok 3 (q.2.flatMap enV) q.2.length
theorem logs_get {b : Br} {i : Nat} (h : i < b.ls.length) : b.logs.getD i [] = (b.ls.getD i default).2 := by
  unfold Br.logs
  rw [List.getD_eq_getElem?_getD, List.getElem?_map, List.getD_eq_getElem?_getD, List.getElem?_eq_getElem h]; rfl
theorem logs_len (b : Br) : b.logs.length = b.ls.length := by simp [Br.logs]
theorem lgHp_loc {ls : List Lg} {i : Nat} (h : i < ls.length) : Gv.Loc (lgHp ls) ((ls.getD i default).1.hp 70 ((ls.getD i default).2.flatMap enV)) fun H' => lgHp (ls.take i) ++ (H' ++ lgHp (ls.drop (i + 1))) := by
  refine ⟨lgHp (ls.take i), lgHp (ls.drop (i + 1)), ?_, fun _ => rfl⟩
  have e : ls = ls.take i ++ (ls.getD i default :: ls.drop (i + 1)) := by
    rw [List.getD_eq_getElem?_getD, List.getElem?_eq_getElem h]
    simp
  conv => lhs; rw [e]
  simp only [lgHp, List.flatMap_append, List.flatMap_cons]
theorem lgHp_set {ls : List Lg} {i : Nat} (h : i < ls.length) (q : Lg) : lgHp (ls.take i) ++ (q.1.hp 70 (q.2.flatMap enV) ++ lgHp (ls.drop (i + 1))) = lgHp (ls.set i q) := by
  rw [List.set_eq_take_append_cons_drop, if_pos h]
  simp only [lgHp, List.flatMap_append, List.flatMap_cons]
theorem lgHp_set2 {ls : List Lg} {i : Nat} (h : i < ls.length) (B : Buf) (l : List En) : lgHp (ls.take i) ++ (B.hp 70 (l.flatMap enV) ++ lgHp (ls.drop (i + 1))) = lgHp (ls.set i (B, l)) := lgHp_set h (B, l)
theorem lOk.get {ls : List Lg} (h : lOk ls) {i : Nat} (hi : i < ls.length) : (ls.getD i default).1.ok 3 ((ls.getD i default).2.flatMap enV) (ls.getD i default).2.length :=
  h _ (getD_mem hi)
theorem lOk.set {ls : List Lg} (h : lOk ls) {i : Nat} {q : Lg} (hq : q.1.ok 3 (q.2.flatMap enV) q.2.length) : lOk (ls.set i q) := fun x hx => by
  rcases List.mem_or_eq_of_mem_set hx with h1 | h1
  · exact h x h1
  · rw [h1]; exact hq
theorem lgHp_rd {ls : List Lg} (hl : lOk ls) {i : Nat} (h : i < ls.length) {w : View} : Rd w (lgHp ls) (ls.getD i default).1.a ((ls.getD i default).2.flatMap enV) := (lgHp_loc h).buf_rd (hl.get h)

theorem f109 (p : Nat) (L : Value) (r : Dr) (d : Dk) (at_ falls : Nat) (h : View) : GSpec Try.prog 109 [pP p] h (dHp r d ++ [bkc p L r.p at_ falls]) (Ret (dHp r d ++ [bkc p L r.p at_ falls]) (.bool (decide (falls ≠ d.falls)))) := by
  by_cases hf : falls = d.falls
  · rw [decide_eq_false (by simpa using hf)]
    unfold dHp
    refine GSpec.enter (fn := Try.f109) Try.func109 rfl (by kernel_rfl) ?_
    repeat' (conv => whnf
             first
             | ((with_reducible refine DrawSt.walk [0, 1, 2, 3, 4, 5, 6, 7, 8, 9, 10, 11, 12] mixed ?_ ?_); · decide +kernel)
             | (with_reducible refine NextSt.mk ?_)
             | ((with_reducible apply Cmp.no); · omega)
             | ((with_reducible apply LoadSt.box); · (repeat (first | exact List.Mem.head _ | with_reducible apply List.mem_append_right))))
    conv => whnf
    refine FinSt.ret (by (try dsimp only); (try simp only [List.cons_append, List.nil_append]); (repeat (with_reducible exact List.Sublist.refl _))) ?_
    rfl
  · rw [decide_eq_true hf]
    unfold dHp
    refine GSpec.enter (fn := Try.f109) Try.func109 rfl (by kernel_rfl) ?_
    repeat' (conv => whnf
             first
             | ((with_reducible refine DrawSt.walk [0, 1, 2, 3, 4, 5, 6, 7, 8, 9, 10, 11, 12] mixed ?_ ?_); · decide +kernel)
             | (with_reducible refine NextSt.mk ?_)
             | ((with_reducible apply Cmp.yes); · omega)
             | ((with_reducible apply LoadSt.box); · (repeat (first | exact List.Mem.head _ | with_reducible apply List.mem_append_right))))
    conv => whnf
    refine FinSt.ret (by (try dsimp only); (try simp only [List.cons_append, List.nil_append]); (repeat (with_reducible exact List.Sublist.refl _))) ?_
    rfl

theorem f110 (b : Br) (q at_ falls : Nat) (e : En) (hw : wfL b.logs) (hl : lOk b.ls) (hb : e.body.length < 1000000) (h : View) :
    GSpec Try.prog 110 [pP b.p, .agg ⟨enV e⟩] h (bkc b.p (bkV b) q at_ falls :: lgc b :: lgHp b.ls) (Ret (bkc b.p (bkV b) q at_ falls :: lgc b :: lgHp b.ls) (.bool (decide (chg b.logs e)))) := by
  have hlen := logs_len b
  have hb8 := hw.len
  by_cases h1 : enOk e
  · have hch : chkE e = 0 := if_pos h1
    have e82 := fun h O => f82 e hb h O
    rw [hch] at e82
    by_cases h2 : e.office.toNat < b.ls.length
    · have hg := logs_get h2
      have hq := hl.get h2
      have hr := lgHp_rd hl h2 (w := h)
      have hlg := hw.log e.office.toNat (by omega)
      rw [hg] at hlg
      have hc : chg b.logs e ↔ (e.no.toNat = (b.ls.getD e.office.toNat default).2.length ∨ e.no.toNat < (b.ls.getD e.office.toNat default).2.length ∧ Op.bytesLess e.body ((b.ls.getD e.office.toNat default).2.getD e.no.toNat default).body = true) := by
        unfold chg; rw [hg]; exact ⟨fun x => x.2.2, fun x => ⟨h1, by omega, x⟩⟩
      obtain ⟨o, n, bo⟩ := e
      obtain ⟨a1, a2, a3, a4, a5⟩ := id h1
      simp only at a1 a2 a3 a4 a5 h2 hg hq hr hlg hb hc
      obtain ⟨o, rfl⟩ := nat_of a1
      obtain ⟨n, rfl⟩ := nat_of a3
      simp only [Int.toNat_natCast] at h2 hg hq hr hlg hc
      unfold bkV
      by_cases h3 : n = (b.ls.getD o default).2.length
      · rw [decide_eq_true (hc.2 (.inl h3))]
        refine GSpec.enter (fn := Try.f110) Try.func110 rfl (by kernel_rfl) ?_
        repeat' (conv => whnf
                 first
                 | ((with_reducible refine CallG.rd (f := 82) (X := .int .i64 0) ?_ ?_); (· exact e82 _ _))
                 | (((with_reducible apply LoadSt.ownd (g := slV)); (· (repeat (first | exact List.Mem.head _ | with_reducible apply List.mem_cons_of_mem))); (· (exact Nat.zero_add _)); (· (omega))))
                 | ((with_reducible refine DrawSt.walk [0, 1, 2, 3, 4, 5, 6, 7, 8, 9, 10, 11, 12, 13] mixed ?_ ?_); · decide +kernel)
                 | ((with_reducible refine DrawSt.walk [0, 1, 2, 3, 4, 5, 6, 7, 8] mixed ?_ ?_); · decide +kernel)
                 | ((with_reducible refine DrawSt.walk [0, 1, 2, 3, 4, 5, 6, 7, 8, 9, 10, 11, 12, 13, 14, 15, 16, 17, 18, 19, 20, 21, 22, 23] mixed ?_ ?_); · decide +kernel)
                 | ((with_reducible apply CallG.decY (f := 93)); (· (apply GSpec.cast (sp := f93 _ _ _ _); (· (repeat' (with_reducible rfl))); all_goals (fail))); · (dsimp only; omega))
                 | (with_reducible refine NextSt.mk ?_)
                 | (with_reducible refine OnBB.tt ?_)
                 | (with_reducible refine OnBB.ff ?_)
                 | ((with_reducible apply Cmp.no); · omega)
                 | ((with_reducible apply LoadSt.box); · (repeat (first | exact List.Mem.head _ | with_reducible apply List.mem_cons_of_mem)))
                 | ((with_reducible apply LoadSt.boxAgg); · (repeat (exact List.Mem.head _)))
                 | ((with_reducible refine AllocSt.mk ?_); intro _b _hb _hbO)
                 | ((with_reducible apply IdxSl.own1); (· rfl); (· with_reducible rfl); · (omega))
                 | ((with_reducible apply Cmp.yes); · (dsimp only; omega)))
        conv => whnf
        refine FinSt.ret (by (try dsimp only); (try simp only [List.cons_append, List.nil_append]); (repeat (first | with_reducible exact List.Sublist.refl _ | with_reducible apply List.Sublist.cons))) ?_
        rfl
      · by_cases h4 : n < (b.ls.getD o default).2.length
        · cases h5 : Op.bytesLess bo ((b.ls.getD o default).2.getD n default).body
          · rw [decide_eq_false (fun x => by rcases hc.1 x with x | x; exact h3 x; rw [h5] at x; cases x.2)]
            have h6 : ¬ Op.bytesLess bo ((b.ls.getD o default).2.getD n default).body = true := by rw [h5]; simp
            refine GSpec.enter (fn := Try.f110) Try.func110 rfl (by kernel_rfl) ?_
            repeat' (conv => whnf
                     first
                     | ((with_reducible refine CallG.rd (f := 82) (X := .int .i64 0) ?_ ?_); (· exact e82 _ _))
                     | (((with_reducible apply LoadSt.ownd (g := slV)); (· (repeat (first | exact List.Mem.head _ | with_reducible apply List.mem_cons_of_mem))); (· (exact Nat.zero_add _)); (· (omega))))
                     | (((with_reducible apply LoadSt.rdf (g := enV) (s := 3)); (· (repeat (first | with_reducible assumption | with_reducible apply Rd.cons))); (· exact fun _ => rfl); (· (omega)); (· decide)))
                     | ((with_reducible refine DrawSt.walk [0, 1, 2, 3, 4, 5, 6, 7, 8, 9, 10, 11, 12, 13] mixed ?_ ?_); · decide +kernel)
                     | ((with_reducible refine DrawSt.walk [0, 1, 2, 3, 4, 5, 6, 7, 8] mixed ?_ ?_); · decide +kernel)
                     | ((with_reducible refine DrawSt.walk [0, 1, 2, 3, 4, 5, 6, 7, 8, 9, 10, 11, 12, 13, 14, 15, 16, 17, 18, 19, 20, 21, 22, 23] mixed ?_ ?_); · decide +kernel)
                     | ((with_reducible apply CallG.decY (f := 93)); (· (apply GSpec.cast (sp := f93 _ _ _ _); (· (repeat' (with_reducible rfl))); all_goals (fail))); · (dsimp only; omega))
                     | ((with_reducible apply IdxSl.bufm (s := 3)); (· with_reducible assumption); (· rfl); (· rfl); (· with_reducible rfl); · (omega))
                     | (with_reducible refine NextSt.mk ?_)
                     | (with_reducible refine OnBB.tt ?_)
                     | (with_reducible refine OnBB.ff ?_)
                     | ((with_reducible apply Cmp.no); · omega)
                     | ((with_reducible apply LoadSt.box); · (repeat (first | exact List.Mem.head _ | with_reducible apply List.mem_cons_of_mem)))
                     | ((with_reducible apply LoadSt.boxAgg); · (repeat (exact List.Mem.head _)))
                     | ((with_reducible refine AllocSt.mk ?_); intro _b _hb _hbO)
                     | ((with_reducible apply IdxSl.own1); (· rfl); (· with_reducible rfl); · (omega))
                     | ((with_reducible apply Cmp.yes); · (dsimp only; omega))
                     | ((with_reducible apply Cmp.no); · (dsimp only; omega)))
            conv => whnf
            refine FinSt.ret (by (try dsimp only); (try simp only [List.cons_append, List.nil_append]); (repeat (first | with_reducible exact List.Sublist.refl _ | with_reducible apply List.Sublist.cons))) ?_
            rfl
          · rw [decide_eq_true (hc.2 (.inr ⟨h4, h5⟩))]
            refine GSpec.enter (fn := Try.f110) Try.func110 rfl (by kernel_rfl) ?_
            repeat' (conv => whnf
                     first
                     | ((with_reducible refine CallG.rd (f := 82) (X := .int .i64 0) ?_ ?_); (· exact e82 _ _))
                     | (((with_reducible apply LoadSt.ownd (g := slV)); (· (repeat (first | exact List.Mem.head _ | with_reducible apply List.mem_cons_of_mem))); (· (exact Nat.zero_add _)); (· (omega))))
                     | (((with_reducible apply LoadSt.rdf (g := enV) (s := 3)); (· (repeat (first | with_reducible assumption | with_reducible apply Rd.cons))); (· exact fun _ => rfl); (· (omega)); (· decide)))
                     | ((with_reducible refine DrawSt.walk [0, 1, 2, 3, 4, 5, 6, 7, 8, 9, 10, 11, 12, 13] mixed ?_ ?_); · decide +kernel)
                     | ((with_reducible refine DrawSt.walk [0, 1, 2, 3, 4, 5, 6, 7, 8] mixed ?_ ?_); · decide +kernel)
                     | ((with_reducible refine DrawSt.walk [0, 1, 2, 3, 4, 5, 6, 7, 8, 9, 10, 11, 12, 13, 14, 15, 16, 17, 18, 19, 20, 21, 22, 23] mixed ?_ ?_); · decide +kernel)
                     | ((with_reducible apply CallG.decY (f := 93)); (· (apply GSpec.cast (sp := f93 _ _ _ _); (· (repeat' (with_reducible rfl))); all_goals (fail))); · (dsimp only; omega))
                     | ((with_reducible apply IdxSl.bufm (s := 3)); (· with_reducible assumption); (· rfl); (· rfl); (· with_reducible rfl); · (omega))
                     | (with_reducible refine NextSt.mk ?_)
                     | (with_reducible refine OnBB.tt ?_)
                     | (with_reducible refine OnBB.ff ?_)
                     | ((with_reducible apply Cmp.yes); · omega)
                     | ((with_reducible apply Cmp.no); · omega)
                     | ((with_reducible apply LoadSt.box); · (repeat (first | exact List.Mem.head _ | with_reducible apply List.mem_cons_of_mem)))
                     | ((with_reducible apply LoadSt.boxAgg); · (repeat (exact List.Mem.head _)))
                     | ((with_reducible refine AllocSt.mk ?_); intro _b _hb _hbO)
                     | ((with_reducible apply IdxSl.own1); (· rfl); (· with_reducible rfl); · (omega))
                     | ((with_reducible apply Cmp.yes); · (dsimp only; omega))
                     | ((with_reducible apply Cmp.no); · (dsimp only; omega)))
            conv => whnf
            refine FinSt.ret (by (try dsimp only); (try simp only [List.cons_append, List.nil_append]); (repeat (first | with_reducible exact List.Sublist.refl _ | with_reducible apply List.Sublist.cons))) ?_
            rfl
        · rw [decide_eq_false (fun x => by rcases hc.1 x with x | x; exact h3 x; exact h4 x.1)]
          refine GSpec.enter (fn := Try.f110) Try.func110 rfl (by kernel_rfl) ?_
          repeat' (conv => whnf
                   first
                   | ((with_reducible refine CallG.rd (f := 82) (X := .int .i64 0) ?_ ?_); (· exact e82 _ _))
                   | (((with_reducible apply LoadSt.ownd (g := slV)); (· (repeat (first | exact List.Mem.head _ | with_reducible apply List.mem_cons_of_mem))); (· (exact Nat.zero_add _)); (· (omega))))
                   | ((with_reducible refine DrawSt.walk [0, 1, 2, 3, 4, 5, 6, 7, 8, 9, 10, 11, 12, 13] mixed ?_ ?_); · decide +kernel)
                   | ((with_reducible refine DrawSt.walk [0, 1, 2, 3, 4, 5, 6, 7, 8] mixed ?_ ?_); · decide +kernel)
                   | ((with_reducible refine DrawSt.walk [0, 1, 2, 3, 4, 5, 6, 7, 8, 9, 10, 11, 12, 13, 14, 15, 16, 17, 18, 19, 20, 21, 22, 23] mixed ?_ ?_); · decide +kernel)
                   | ((with_reducible apply CallG.decY (f := 93)); (· (apply GSpec.cast (sp := f93 _ _ _ _); (· (repeat' (with_reducible rfl))); all_goals (fail))); · (dsimp only; omega))
                   | (with_reducible refine NextSt.mk ?_)
                   | (with_reducible refine OnBB.tt ?_)
                   | (with_reducible refine OnBB.ff ?_)
                   | ((with_reducible apply Cmp.no); · omega)
                   | ((with_reducible apply LoadSt.box); · (repeat (first | exact List.Mem.head _ | with_reducible apply List.mem_cons_of_mem)))
                   | ((with_reducible apply LoadSt.boxAgg); · (repeat (exact List.Mem.head _)))
                   | ((with_reducible refine AllocSt.mk ?_); intro _b _hb _hbO)
                   | ((with_reducible apply IdxSl.own1); (· rfl); (· with_reducible rfl); · (omega))
                   | ((with_reducible apply Cmp.no); · (dsimp only; omega)))
          conv => whnf
          refine FinSt.ret (by (try dsimp only); (try simp only [List.cons_append, List.nil_append]); (repeat (first | with_reducible exact List.Sublist.refl _ | with_reducible apply List.Sublist.cons))) ?_
          rfl
    · rw [decide_eq_false (fun x : chg b.logs e => h2 (by have := x.2.1; omega))]
      have a1 := h1.1
      unfold bkV
      refine GSpec.enter (fn := Try.f110) Try.func110 rfl (by kernel_rfl) ?_
      repeat' (conv => whnf
               first
               | ((with_reducible refine CallG.rd (f := 82) (X := .int .i64 0) ?_ ?_); (· exact e82 _ _))
               | ((with_reducible refine DrawSt.walk [0, 1, 2, 3, 4, 5, 6, 7, 8, 9, 10, 11, 12, 13] mixed ?_ ?_); · decide +kernel)
               | ((with_reducible apply CallG.decN (f := 93)); (· (apply GSpec.cast (sp := f93 _ _ _ _); (· (repeat' (with_reducible rfl))); all_goals (fail))); · omega)
               | (with_reducible refine NextSt.mk ?_)
               | (with_reducible refine OnBB.tt ?_)
               | (with_reducible refine OnBB.ff ?_)
               | ((with_reducible apply Cmp.no); · omega)
               | ((with_reducible apply LoadSt.box); · (repeat (first | exact List.Mem.head _ | with_reducible apply List.mem_cons_of_mem)))
               | ((with_reducible apply LoadSt.boxAgg); · (repeat (exact List.Mem.head _)))
               | ((with_reducible refine AllocSt.mk ?_); intro _b _hb _hbO))
      conv => whnf
      refine FinSt.ret (by (try dsimp only); (try simp only [List.cons_append, List.nil_append]); (repeat (first | with_reducible exact List.Sublist.refl _ | with_reducible apply List.Sublist.cons))) ?_
      rfl
  · rw [decide_eq_false (fun x : chg b.logs e => h1 x.1)]
    have e82 := fun h O => f82 e hb h O
    rw [show chkE e = 92 from if_neg h1] at e82
    unfold bkV
    refine GSpec.enter (fn := Try.f110) Try.func110 rfl (by kernel_rfl) ?_
    repeat' (conv => whnf
             first
             | ((with_reducible refine CallG.rd (f := 82) (X := .int .i64 92) ?_ ?_); (· exact e82 _ _))
             | ((with_reducible refine DrawSt.walk [0, 1, 2, 3, 4, 5, 6, 7, 8, 9, 10, 11, 12, 13] mixed ?_ ?_); · decide +kernel)
             | (with_reducible refine NextSt.mk ?_)
             | (with_reducible refine OnBB.tt ?_)
             | ((with_reducible apply Cmp.yes); · omega)
             | ((with_reducible apply LoadSt.boxAgg); · (repeat (exact List.Mem.head _)))
             | ((with_reducible refine AllocSt.mk ?_); intro _b _hb _hbO))
    conv => whnf
    refine FinSt.ret (by (try dsimp only); (try simp only [List.cons_append, List.nil_append]); (repeat (first | with_reducible exact List.Sublist.refl _ | with_reducible apply List.Sublist.cons))) ?_
    rfl
def ChR (b : Br) (q at_ falls : Nat) (e : En) (v : Value) (O' : Hp) : Prop :=
  ∃ b', b'.p = b.p ∧ b'.logs = chgd b.logs e ∧ lOk b'.ls ∧ O' = bkc b'.p (bkV b') q at_ falls :: lgc b' :: lgHp b'.ls ∧ v = noV
theorem set_self {α : Type} {l : List α} {i : Nat} {d : α} : l.set i (l.getD i d) = l := by
  by_cases h : i < l.length
  · rw [List.getD_eq_getElem?_getD, List.getElem?_eq_getElem h]; simp
  · exact List.set_eq_of_length_le (by omega)
theorem f121 (b : Br) (q at_ falls : Nat) (e : En) (hw : wfL b.logs) (hl : lOk b.ls) (hc : chg b.logs e) (h : View) :
    GSpec Try.prog 121 [pP b.p, .agg ⟨enV e⟩] h (bkc b.p (bkV b) q at_ falls :: lgc b :: lgHp b.ls) (fun v _ O' => ChR b q at_ falls e v O') := by
  have hlen := logs_len b
  have hb8 := hw.len
  have h2 : e.office.toNat < b.ls.length := by have := hc.2.1; omega
  have hg := logs_get h2
  have hq := hl.get h2
  have hr := lgHp_rd hl h2 (w := h)
  have hlg := hw.log e.office.toNat (by omega)
  have hloc := lgHp_loc h2
  have hset := lgHp_set2 h2
  rw [hg] at hlg
  obtain ⟨h1, _, h3⟩ := hc
  rw [hg] at h3
  obtain ⟨o, n, bo⟩ := e
  obtain ⟨a1, a2, a3, a4, a5⟩ := id h1
  simp only at a1 a2 a3 a4 a5 h2 hg hq hr hlg h3 hloc hset
  obtain ⟨o, rfl⟩ := nat_of a1
  obtain ⟨n, rfl⟩ := nat_of a3
  simp only [Int.toNat_natCast] at h2 hg hq hr hlg h3 hloc hset
  unfold bkV
  have hlogs : ∀ B l', l' = put1 (b.ls.getD o default).2 ⟨o, n, bo⟩ → ({ b with ls := b.ls.set o (B, l') } : Br).logs = chgd b.logs ⟨o, n, bo⟩ := fun B l' e => by
    subst e
    show (b.ls.set o _).map Prod.snd = _
    rw [List.map_set]
    simp only [chgd, Int.toNat_natCast, hg]; rfl
  have hsl : ∀ q, (b.ls.map slV).set o (slV q) = (b.ls.set o q).map slV := fun q => by rw [List.map_set]
  by_cases h4 : n = (b.ls.getD o default).2.length
  · refine GSpec.enter (fn := Try.f121) Try.func121 rfl (by kernel_rfl) ?_
    repeat' (conv => whnf
             first
             | (((with_reducible apply LoadSt.ownd (g := slV)); (· (repeat (first | exact List.Mem.head _ | with_reducible apply List.mem_cons_of_mem))); (· (exact Nat.zero_add _)); (· (omega))))
             | (((with_reducible refine DrawSt.walkF ([(_b, .cells ⟨[.int .i64 o, .int .i64 n, sV bo]⟩ 70 (0, 0)), bkc b.p (.slice (some ⟨b.lp, 0, none⟩) b.ls.length b.ls.length) q at_ falls]) [0,1,2,3,4,5,6,7,8,9,10,11] mixed ?_ ?_ ?_); (· decide +kernel); (· (try dsimp only); (try simp only [List.cons_append, List.nil_append]); (repeat (first | with_reducible exact List.nil_sublist _ | with_reducible apply List.Sublist.cons_cons | apply List.Sublist.cons_cons)))))
             | ((unfold slV); (apply AppSt.litm (g := enV) (x := ⟨o, n, bo⟩) (s := 3) (z := .agg ⟨[.int .i64 0, .int .i64 0, .string ⟨⟨[]⟩⟩]⟩)); (· repeat (first | exact hloc | with_reducible apply Loc.tl)); (· exact hq); (· (repeat (exact List.Mem.head _))); (· rfl); (· rfl); (· rfl); (· rfl); (· rfl); (· rfl); (· rfl); (· (show _ * 32 ≤ _; omega)); (· omega); intro _B _hB; rw [hset])
             | (((with_reducible apply StoreSt.mapd (x := (_B, (b.ls.getD o default).2 ++ [⟨o, n, bo⟩]))); (· (repeat (first | exact Upd.hd | apply Upd.tl))); (· ((simp only [Nat.zero_add, Nat.add_zero]; rfl))); (· simp only [slV, List.length_append, List.length_cons, List.length_nil]; rfl); (· rfl); (· (omega)); (· exact Or.inl (Nat.le_refl _))))
             | ((with_reducible refine DrawSt.walk [0, 1, 2, 3, 4, 5, 6, 7, 8] mixed ?_ ?_); · decide +kernel)
             | ((with_reducible refine SubSt.mk ?_ ?_); · (repeat (first | (intro _y _hy; cases _hy; done) | refine List.forall_mem_cons.2 ⟨by (repeat (first | exact List.Mem.head _ | with_reducible apply List.mem_cons_of_mem)), ?_⟩)))
             | (with_reducible refine NextSt.mk ?_)
             | (with_reducible refine OnBB.tt ?_)
             | ((with_reducible apply LoadSt.box); · (repeat (first | exact List.Mem.head _ | with_reducible apply List.mem_cons_of_mem)))
             | ((with_reducible apply LoadSt.boxAgg); · (repeat (exact List.Mem.head _)))
             | ((with_reducible refine AllocSt.mk ?_); intro _b _hb _hbO)
             | ((with_reducible apply IdxSl.own1); (· rfl); (· with_reducible rfl); · (omega))
             | ((with_reducible apply Cmp.yes); · (dsimp only; omega)))
    conv => whnf
    refine FinSt.own (R := ChR b q at_ falls ⟨o, n, bo⟩) (O1 := bkc b.p (.slice (some ⟨b.lp, 0, none⟩) b.ls.length b.ls.length) q at_ falls :: (b.lp, .cells ⟨(b.ls.set o (_B, (b.ls.getD o default).2 ++ [⟨o, n, bo⟩])).map slV⟩ 63 (0, 0)) :: lgHp (b.ls.set o (_B, (b.ls.getD o default).2 ++ [⟨o, n, bo⟩]))) ?_ ⟨{ b with ls := b.ls.set o (_B, (b.ls.getD o default).2 ++ [⟨o, n, bo⟩]) }, rfl, hlogs _ _ ?_, ?_, ?_, rfl⟩
    · (try dsimp only); (try simp only [List.cons_append, List.nil_append]); (repeat (first | with_reducible exact List.Sublist.refl _ | with_reducible apply List.Sublist.cons))
    · simp only [put1, Int.toNat_natCast, if_pos h4]
    · exact lOk.set hl (by simpa using _hB)
    · simp only [bkV, List.length_set]
  · refine GSpec.enter (fn := Try.f121) Try.func121 rfl (by kernel_rfl) ?_
    repeat' (conv => whnf
             first
             | (((with_reducible apply LoadSt.ownd (g := slV)); (· (repeat (first | exact List.Mem.head _ | with_reducible apply List.mem_cons_of_mem))); (· (exact Nat.zero_add _)); (· (omega))))
             | ((apply StoreSt.bufe (g := enV) (s := 3) (i := n) (x := ⟨o, n, bo⟩)); (· repeat (first | exact hloc | with_reducible apply Loc.tl)); (· exact hq); (· exact fun _ => rfl); (· with_reducible rfl); (· rfl); (· (omega)); (· decide); (· rfl); rw [hset])
             | ((with_reducible refine DrawSt.walk [0, 1, 2, 3, 4, 5, 6, 7, 8] mixed ?_ ?_); · decide +kernel)
             | ((with_reducible apply IdxSl.bufm (s := 3)); (· with_reducible assumption); (· rfl); (· rfl); (· with_reducible rfl); · (omega))
             | (with_reducible refine NextSt.mk ?_)
             | (with_reducible refine OnBB.ff ?_)
             | ((with_reducible apply LoadSt.box); · (repeat (first | exact List.Mem.head _ | with_reducible apply List.mem_cons_of_mem)))
             | ((with_reducible apply LoadSt.boxAgg); · (repeat (exact List.Mem.head _)))
             | ((with_reducible refine AllocSt.mk ?_); intro _b _hb _hbO)
             | ((with_reducible apply IdxSl.own1); (· rfl); (· with_reducible rfl); · (omega))
             | ((with_reducible apply Cmp.no); · (dsimp only; omega)))
    conv => whnf
    refine FinSt.own (R := ChR b q at_ falls ⟨o, n, bo⟩) (O1 := bkc b.p (.slice (some ⟨b.lp, 0, none⟩) b.ls.length b.ls.length) q at_ falls :: lgc b :: lgHp (b.ls.set o ((b.ls.getD o default).1, (b.ls.getD o default).2.set n ⟨o, n, bo⟩))) ?_ ⟨{ b with ls := b.ls.set o ((b.ls.getD o default).1, (b.ls.getD o default).2.set n ⟨o, n, bo⟩) }, rfl, hlogs _ _ ?_, ?_, ?_, rfl⟩
    · (try dsimp only); (try simp only [List.cons_append, List.nil_append]); (repeat (first | with_reducible exact List.Sublist.refl _ | with_reducible apply List.Sublist.cons))
    · simp only [put1, Int.toNat_natCast, if_neg h4]
    · refine lOk.set hl ?_
      have h6 : ∀ l : List En, (l.flatMap enV).length = l.length * 3 := fun l => flat_length (g := enV) (s := 3) (fun _ => rfl) l
      rw [List.length_set]
      exact Buf.ok_len hq (by rw [h6, h6, List.length_set])
    · have h7 : (b.ls.set o ((b.ls.getD o default).1, (b.ls.getD o default).2.set n ⟨o, n, bo⟩)).map slV = b.ls.map slV := by
        rw [List.map_set, show slV ((b.ls.getD o default).1, (b.ls.getD o default).2.set n ⟨o, n, bo⟩) = slV (b.ls.getD o default) from by simp only [slV, List.length_set], ← List.map_set, set_self]
      simp only [bkV, List.length_set, lgc, h7]
end Go.Proofs.Ytlbmlimaobkhpaa
