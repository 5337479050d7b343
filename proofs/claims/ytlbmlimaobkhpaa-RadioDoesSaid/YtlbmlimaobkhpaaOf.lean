/- Books are opened. -/
import Derived.Test.YtlbmlimaobkhpaaRf
import Derived.Test.YtlbmlimaobkhpaaKa
import Derived.Test.YtlbmlimaobkhpaaOc
set_option linter.unusedVariables false
set_option linter.unusedSimpArgs false
set_option linter.unusedSectionVars false
/- The program's books: a record is read. -/
namespace Go.Gv
variable {P : Program}
theorem byteV_nb (l : List UInt8) : l.map byteV = (nb l).map bN := by
  rw [nb, List.map_map]; rfl
theorem nb_getD (l : List UInt8) (i : Nat) : (nb l).getD i 0 = (l.getD i 0).toNat := by
  simp only [nb, List.getD_eq_getElem?_getD, List.getElem?_map]
  cases l[i]? <;> rfl
theorem nb_append (l m : List UInt8) : nb (l ++ m) = nb l ++ nb m := by simp [nb]
/-- A string behind a row of bytes. -/
theorem AppSt.strs {xs : List UInt8} (ys : List UInt8) {b : Buf} {t t2 ty e : TypeId} {inf : TypeInfo} {h : View} {O : Hp} {f : Hp → Hp} {K : Value → View → Hp → Prop} (hO : Loc O (b.hp e ((nb xs).map bN)) f) (hb : b.ok 1 ((nb xs).map bN) xs.length)
    (hu : P.underlying t2 = some .string) (hsz : inf.size = 1) (z : Value) (hz : inf.zero = some z) (hzl : (cellsL z).length = 1) (hfit : (xs.length + ys.length) * inf.bytes ≤ 140737488355328) (h63 : xs.length + ys.length ≤ 9223372036854775807)
    (hk : ∀ b' : Buf, b'.ok 1 ((nb (xs ++ ys)).map bN) (xs.length + ys.length) → K (.slice b'.a (xs.length + ys.length) b'.cap) h (f (b'.hp e ((nb (xs ++ ys)).map bN)))) : AppSt P t t2 ty e inf (.slice b.a xs.length b.cap) (sV ys) h O K := by
  refine .buf (m := ys.length) (ys := ys.map byteV) hO (by rw [hsz]; exact hb) (by rw [hsz]; exact Srcs.str hu) z hz (by rw [hsz]; exact hzl) hfit h63 fun b' hb' => ?_
  rw [hsz, byteV_nb, ← List.map_append, ← nb_append] at hb'
  rw [byteV_nb, ← List.map_append, ← nb_append]
  exact hk b' hb'
end Go.Gv
namespace Go.Proofs.Ytlbmlimaobkhpaa
open Go Go.Gv
set_option maxRecDepth 100000
set_option maxHeartbeats 4000000
set_option linter.unusedSimpArgs false
set_option linter.unusedVariables false
theorem numI_lt {s : Str} : ∀ k, numI s k < 2 ^ (8 * k)
  | 0 => Nat.lt_of_lt_of_eq Nat.zero_lt_one rfl
  | k + 1 => by
    have h1 := numI_lt (s := s) k
    have h2 := (s.getD k 0).toNat_lt
    rw [numI, show 8 * (k + 1) = 8 * k + 8 by omega, Nat.pow_add]
    have h3 : (s.getD k 0).toNat * 2 ^ (8 * k) ≤ 255 * 2 ^ (8 * k) := Nat.mul_le_mul_right _ (by omega)
    generalize 2 ^ (8 * k) = X at *
    show _ < X * 256
    omega
theorem numI_or {s : Str} (k : Nat) : numI s k ||| (nb s).getD k 0 * 2 ^ (8 * k) = numI s (k + 1) := by
  rw [numI, nb_getD, Nat.or_comm, Nat.mul_comm, ← Nat.two_pow_add_eq_or_of_lt (numI_lt k), Nat.add_comm]
theorem restC_succ {C : List Str} {a k : Nat} (h : 1 ≤ k) : restC C a (k + 1) = restC C a k ++ C.getD (a + k) [] := by
  unfold restC
  obtain ⟨k, rfl⟩ : ∃ j, k = j + 1 := ⟨k - 1, by omega⟩
  rw [Nat.add_sub_cancel, Nat.add_sub_cancel, List.range_succ, List.flatMap_append, List.append_assoc, List.flatMap_singleton, show a + 1 + k = a + (k + 1) by omega]
theorem restC_len {C : List Str} {a : Nat} (hC : ∀ s ∈ C, s.length = 64) (ha : a < C.length) : ∀ k, 1 ≤ k → a + k ≤ C.length → (restC C a k).length = 59 + 64 * (k - 1)
  | 0, h, _ => by omega
  | 1, _, _ => by
    have := hC _ (getD_mem' (d := []) ha)
    unfold restC
    rw [List.length_append, List.length_drop, List.length_take, this]
    rfl
  | k + 2, _, h => by
    rw [restC_succ (by omega), List.length_append, restC_len hC ha (k + 1) (by omega) (by omega), hC _ (getD_mem' (by omega))]
    omega
def recR : Option Str → Value
  | some s => .tuple ⟨[sV s, .bool true]⟩
  | none => .tuple ⟨[sV [], .bool false]⟩
theorem cont_mem {B : Nat} {d : Dk} (h : d.okB B) : ∀ s ∈ cont d, s.length = 64 := Dk.settle_ok _ _ h.safe fun w hw => (h.waits w hw).2
theorem nb_take (l : Str) (n : Nat) : ((nb l).map bN).take n = (nb (l.take n)).map bN := by
  rw [nb, nb, ← List.map_take, ← List.map_take]
theorem f119 (p : Nat) (L : Value) (r : Dr) (d : Dk) (at_ falls B : Nat) (G : Hp) (ho : d.off = false) (hat : at_ ≤ 100000) (hd : d.okB B) (hB : B < 1000000000) (hk : dOk r d) (h : View) :
    GSpec Try.prog 119 [pP p] h (dHp r d ++ (bkc p L r.p at_ falls :: G)) (Ret (dHp r d ++ (bkc p L r.p at_ falls :: G)) (recR (recC (cont d) at_))) := by
  have hsz := hd.size
  have hcl := cont_len d
  have hcm := cont_mem hd
  have e41 := fun (a : Nat) h => f41 r d a (Nat.lt_of_le_of_lt hd.few.1 hB) hk h
  by_cases ha : at_ < d.safe.length
  · have hread : ∀ a : Nat, a < d.safe.length → ∀ h, GSpec Try.prog 41 [dP r, iN a] h (dHp r d) (Ret (dHp r d) (.tuple ⟨[sV ((cont d).getD a []), .int .i64 0]⟩)) := fun a ha h => by
      have he : d.err a = 0 := by
        unfold Dk.err
        rw [if_neg (by rw [ho]; exact Bool.false_ne_true), if_pos (by omega)]
      have hr : d.read a = ((cont d).getD a [], 0) := by
        unfold Dk.read
        rw [if_pos he, Int.toNat_natCast, cont_get ha]
      have e0 := e41 a h
      rw [hr] at e0
      exact e0
    have h64 : ((cont d).getD at_ []).length = 64 := hcm _ (getD_mem' (by omega))
    have hmk := nb_getD ((cont d).getD at_ []) 63
    have e0 := hread at_ ha
    obtain ⟨s, hs⟩ : ∃ x, x = (cont d).getD at_ [] := ⟨_, rfl⟩
    rw [← hs] at h64 hmk e0
    by_cases hm : s.getD 63 0 = 1
    · have hm2 : (nb s).getD 63 0 = 1 := by rw [hmk, hm]; rfl
      have hrec : recC (cont d) at_ = if 1 ≤ num s ∧ num s ≤ 4096 ∧ at_ + secN (num s) ≤ d.safe.length then some ((restC (cont d) at_ (secN (num s))).take (num s)) else none := by
        unfold recC
        rw [← hs, hcl]
        by_cases hx : 1 ≤ num s ∧ num s ≤ 4096 ∧ at_ + secN (num s) ≤ d.safe.length
        · rw [if_pos hx, if_pos ⟨ha, hm, hx⟩]
        · rw [if_neg hx, if_neg (fun hy => hx hy.2.2)]
      rw [hrec]
      refine GSpec.enter (fn := Try.f119) Try.func119 rfl (by kernel_rfl) ?_
      repeat' (conv => whnf
               first
               | (((with_reducible refine CallG.rd (f := 41) (X := .tuple ⟨[sV s, .int .i64 0]⟩) ?_ ?_); (· (apply GSpec.locRet (H := dHp r d)); (· (repeat (with_reducible exact Loc.hd))); (· exact e0 _))))
               | (((with_reducible apply Cmp.no); · exact fun h => h rfl))
               | ((with_reducible refine DrawSt.walk [0, 1, 2, 3, 4, 5, 6, 7, 8, 9, 10, 11, 12, 13] mixed ?_ ?_); · decide +kernel)
               | (with_reducible refine NextSt.mk ?_)
               | (with_reducible refine OnBB.ff ?_)
               | ((with_reducible apply Cmp.no); · omega)
               | ((with_reducible apply LoadSt.box); · (repeat (first | exact List.Mem.head _ | with_reducible apply List.mem_append_right)))
               | ((with_reducible apply StrIdx.m); (· exact natL _); · omega))
      refine LoopSt.fix [6, 7, 31, 32, 33, 34, 35, 36, 37, 38, 39, 40, 41, 42, 43] (fun (k : Nat) => [(6, iN (numI s k)), (31, iN k)]) (fun _ => _) (fun k => k ≤ 4) (fun k => 4 - k) (0) _ (Wk.refl _ _) (rfl) ?_ ?_ ?_
      · repeat' (first | exact True.intro | refine And.intro ?_ ?_ | rfl)
      · exact Nat.zero_le _
      · intro k d2 hk4
        have hnk := numI_lt (s := s) k
        by_cases hkl : k < 4
        · have hno := numI_or (s := s) k
          have hsb : (nb s).getD k 0 < 256 := nb_byt _ _ (getD_mem' (by rw [nb_len]; omega))
          have hnk2 : numI s k ≤ 4294967296 := Nat.le_of_lt (Nat.lt_of_lt_of_le hnk (Nat.pow_le_pow_right (by decide) (show 8 * k ≤ 32 by omega)))
          repeat' (conv => whnf
                   first
                   | (with_reducible refine NextSt.mk ?_)
                   | (with_reducible refine OnBB.tt ?_)
                   | ((with_reducible apply NW.addN); (· with_reducible rfl); (· exact natL _); (· omega))
                   | ((with_reducible apply NW.mulN); (· exact natL _); (· with_reducible rfl); (· omega))
                   | ((with_reducible apply NW.i64N); (· with_reducible rfl); (· omega))
                   | ((with_reducible apply Cmp.yes); · omega)
                   | ((with_reducible apply Bits.orN); (· with_reducible rfl); (· with_reducible rfl); (· ((refine ⟨?_, ?_⟩ <;> (first | omega | (apply shl_le <;> omega))))))
                   | ((with_reducible apply ShSt.shlS); (· with_reducible rfl); (· with_reducible rfl); (· omega); (· omega))
                   | ((with_reducible apply StrIdx.m); (· with_reducible rfl); · omega))
          rw [hno]
          refine RoundFix.mk (k + 1) ?_ ?_ _ rfl (Wk.drop (by (try dsimp only); (try simp only [List.cons_append, List.nil_append]); (repeat (with_reducible exact List.Sublist.refl _)))) ?_
          · omega
          · repeat' (first | exact True.intro | refine And.intro ?_ ?_ | rfl)
          · omega
        · have : k = 4 := by omega
          subst this
          rw [show numI s 4 = num s from rfl] at hnk ⊢
          generalize num s = n at *
          have hsn : secN n = 1 + (n + 4) / 64 := rfl
          by_cases hx : 1 ≤ n ∧ n ≤ 4096 ∧ at_ + secN n ≤ d.safe.length
          · rw [if_pos hx]
            obtain ⟨hx1, hx2, hx3⟩ := hx
            have hr1 : restC (cont d) at_ 1 = (s.take 63).drop 4 := by
              unfold restC
              rw [← hs]; simp
            repeat' (conv => whnf
                     first
                     | (((with_reducible apply CallG.rd (f := 49)); (· (apply GSpec.locRet (H := dHp _ _)); (· (repeat (with_reducible exact Loc.hd))); (· exact f49 _ _ _))))
                     | ((apply BytesSt.buf; intro A hA; rw [byteV_nb] at hA ⊢))
                     | ((with_reducible refine DrawSt.walk [0, 1, 2, 3, 4, 5, 6, 7, 8, 9, 10, 11, 14, 15, 16, 17, 12, 13, 18, 19, 20] mixed ?_ ?_); · decide +kernel)
                     | ((with_reducible apply CallG.rd (f := 120)); · (apply GSpec.cast (sp := f120 _ ?_ _ _); (· (repeat' (with_reducible rfl))); all_goals (omega)))
                     | (with_reducible refine NextSt.mk ?_)
                     | (with_reducible refine OnBB.ff ?_)
                     | ((with_reducible apply NW.addN); (· with_reducible rfl); (· with_reducible rfl); (· omega))
                     | ((with_reducible apply Cmp.no); · omega)
                     | ((with_reducible apply LoadSt.box); · (repeat (first | exact List.Mem.head _ | with_reducible apply List.mem_append_right)))
                     | ((with_reducible apply StrSl.lohi); (· exact natL _); (· exact natL _); (· (omega)); (· (omega))))
            rw [← hr1] at hA ⊢
            refine LoopSt.fix [8, 9, 10, 11, 68, 69, 70, 71, 72, 73, 74, 75, 76, 77, 78, 79, 80, 81, 82, 83, 84, 85, 86, 87, 88, 89, 90] (fun ((k, B) : Nat × Buf) => [(8, .slice B.a (restC (cont d) at_ k).length B.cap), (9, iN k)]) (fun (k, B) => B.hp 5 ((nb (restC (cont d) at_ k)).map bN) ++ (dHp r d ++ (bkc p L r.p at_ falls :: G))) (fun (k, B) => (1 ≤ k ∧ k ≤ secN n) ∧ B.ok 1 ((nb (restC (cont d) at_ k)).map bN) (restC (cont d) at_ k).length) (fun (k, B) => secN n - k) ((1, A)) _ (Wk.refl _ _) (rfl) ?_ ?_ ?_
            · repeat' (first | exact True.intro | refine And.intro ?_ ?_ | rfl)
            · exact ⟨⟨Nat.le_refl _, by omega⟩, hA⟩
            · rintro ⟨k, B⟩ d3 ⟨⟨hk1, hk2⟩, hB⟩
              dsimp only at hk1 hk2 hB ⊢
              have hrl := restC_len hcm (a := at_) (by omega) k hk1 (by omega)
              have hBl := Buf.le hB
              by_cases hkl : k < secN n
              · have e0k := hread (at_ + k) (by omega)
                have hst := restC_succ (C := cont d) (a := at_) hk1
                have hck : ((cont d).getD (at_ + k) []).length = 64 := hcm _ (getD_mem' (by omega))
                obtain ⟨sk, hsk⟩ : ∃ x, x = (cont d).getD (at_ + k) [] := ⟨_, rfl⟩
                rw [← hsk] at e0k hst hck
                repeat' (conv => whnf
                         first
                         | (((with_reducible refine CallG.rd (f := 41) (X := .tuple ⟨[sV sk, .int .i64 0]⟩) ?_ ?_); (· (apply GSpec.locRet (H := dHp r d)); (· (repeat (first | with_reducible exact Loc.hd | with_reducible apply Loc.skip))); (· exact e0k _))))
                         | ((refine AppSt.strs (xs := restC (cont d) at_ k) sk Gv.Loc.hd hB rfl rfl (.int .u8 0) rfl rfl (by show _ * 1 ≤ _; omega) (by omega) ?_); intro D hD; rw [← hst] at hD ⊢)
                         | ((with_reducible refine DrawSt.walk [0, 1, 2, 3, 4, 5, 6, 7, 8, 9, 10, 11, 12, 13, 14, 15] mixed ?_ ?_); · decide +kernel)
                         | ((with_reducible apply CallSt.rd (f := 120)); · (apply GSpec.cast (sp := f120 _ ?_ _ _); (· (repeat' (with_reducible rfl))); all_goals (omega)))
                         | (with_reducible refine NextSt.mk ?_)
                         | (with_reducible refine OnBB.tt ?_)
                         | ((with_reducible apply NW.addN); (· with_reducible rfl); (· first | with_reducible rfl | exact natL _); (· omega))
                         | ((with_reducible apply Cmp.yes); · omega)
                         | ((with_reducible apply LoadSt.box); · (repeat (first | exact List.Mem.head _ | with_reducible apply List.mem_append_right))))
                have hl2 : (restC (cont d) at_ (k + 1)).length = (restC (cont d) at_ k).length + sk.length := by rw [hst, List.length_append]
                rw [← hl2] at hD
                refine RoundFix.mk ((k + 1, D)) ?_ ?_ _ rfl (Wk.drop (by (try dsimp only); (try simp only [List.cons_append, List.nil_append]); (repeat (with_reducible exact List.Sublist.refl _)))) ?_
                · dsimp only; omega
                · repeat' (first | exact True.intro | refine And.intro ?_ ?_ | exact congrArg (fun n => Value.slice D.a n D.cap) hl2.symm | rfl)
                · exact ⟨by omega, hD⟩
              · have : k = secN n := by omega
                subst this
                repeat' (conv => whnf
                         first
                         | (((apply SlSl.hi (r := n)); (· rfl); (· omega)))
                         | (((with_reducible apply ToStr.bytes (l := nb ((restC (cont d) at_ (secN n)).take n))); (· rw [← nb_take]; exact (Rd.appL (Buf.rd hB)).take n); (· exact nb_byt _); (· rw [nb_len, List.length_take]; omega)); rw [ofNat_nb])
                         | ((with_reducible apply CallSt.rd (f := 120)); · (apply GSpec.cast (sp := f120 _ ?_ _ _); (· (repeat' (with_reducible rfl))); all_goals (omega)))
                         | (with_reducible refine NextSt.mk ?_)
                         | (with_reducible refine OnBB.ff ?_)
                         | ((with_reducible apply Cmp.no); · omega))
                conv => whnf
                refine FinSt.ret (by (try dsimp only); (try simp only [List.cons_append, List.nil_append]); (repeat (first | with_reducible exact List.Sublist.refl _ | with_reducible apply sub_skip))) ?_
                rfl
          · rw [if_neg hx]
            by_cases hx1 : 1 ≤ n
            · by_cases hx2 : n ≤ 4096
              · have hx3 : ¬ at_ + secN n ≤ d.safe.length := fun h => hx ⟨hx1, hx2, h⟩
                repeat' (conv => whnf
                         first
                         | (((with_reducible apply CallG.rd (f := 49)); (· (apply GSpec.locRet (H := dHp _ _)); (· (repeat (with_reducible exact Loc.hd))); (· exact f49 _ _ _))))
                         | ((with_reducible refine DrawSt.walk [0, 1, 2, 3, 4, 5, 6, 7, 8, 9, 10, 11, 14, 15, 16, 17, 12, 13, 18, 19, 20] mixed ?_ ?_); · decide +kernel)
                         | ((with_reducible apply CallG.rd (f := 120)); · (apply GSpec.cast (sp := f120 _ ?_ _ _); (· (repeat' (with_reducible rfl))); all_goals (omega)))
                         | (with_reducible refine NextSt.mk ?_)
                         | (with_reducible refine OnBB.tt ?_)
                         | (with_reducible refine OnBB.ff ?_)
                         | ((with_reducible apply NW.addN); (· with_reducible rfl); (· with_reducible rfl); (· omega))
                         | ((with_reducible apply Cmp.yes); · omega)
                         | ((with_reducible apply Cmp.no); · omega)
                         | ((with_reducible apply LoadSt.box); · (repeat (first | exact List.Mem.head _ | with_reducible apply List.mem_append_right))))
                conv => whnf
                refine FinSt.ret (by (try dsimp only); (try simp only [List.cons_append, List.nil_append]); (repeat (with_reducible exact List.Sublist.refl _))) ?_
                rfl
              · repeat' (conv => whnf
                         first
                         | ((with_reducible refine DrawSt.walk [0, 1, 2, 3, 4, 5, 6, 7, 8, 9, 10, 11, 14, 15, 16, 17, 12, 13, 18, 19, 20] mixed ?_ ?_); · decide +kernel)
                         | (with_reducible refine NextSt.mk ?_)
                         | (with_reducible refine OnBB.tt ?_)
                         | (with_reducible refine OnBB.ff ?_)
                         | ((with_reducible apply Cmp.yes); · omega)
                         | ((with_reducible apply Cmp.no); · omega))
                conv => whnf
                refine FinSt.ret (by (try dsimp only); (try simp only [List.cons_append, List.nil_append]); (repeat (with_reducible exact List.Sublist.refl _))) ?_
                rfl
            · repeat' (conv => whnf
                       first
                       | ((with_reducible refine DrawSt.walk [0, 1, 2, 3, 4, 5, 6, 7, 8, 9, 10, 11, 14, 15, 16, 17, 12, 13, 18, 19, 20] mixed ?_ ?_); · decide +kernel)
                       | (with_reducible refine NextSt.mk ?_)
                       | (with_reducible refine OnBB.tt ?_)
                       | (with_reducible refine OnBB.ff ?_)
                       | ((with_reducible apply Cmp.yes); · omega)
                       | ((with_reducible apply Cmp.no); · omega))
              conv => whnf
              refine FinSt.ret (by (try dsimp only); (try simp only [List.cons_append, List.nil_append]); (repeat (with_reducible exact List.Sublist.refl _))) ?_
              rfl
    · have hm2 : (nb s).getD 63 0 ≠ 1 := fun hx => hm (by
        rw [hmk] at hx
        exact UInt8.toNat_inj.1 hx)
      rw [show recC (cont d) at_ = none from if_neg (by rw [← hs]; exact fun hx => hm hx.2.1)]
      have hm3 : (nb s).getD 63 0 < 256 := nb_byt _ _ (getD_mem' (by rw [nb_len]; omega))
      refine GSpec.enter (fn := Try.f119) Try.func119 rfl (by kernel_rfl) ?_
      repeat' (conv => whnf
               first
               | (((with_reducible refine CallG.rd (f := 41) (X := .tuple ⟨[sV s, .int .i64 0]⟩) ?_ ?_); (· (apply GSpec.locRet (H := dHp r d)); (· (repeat (with_reducible exact Loc.hd))); (· exact e0 _))))
               | (((with_reducible apply Cmp.no); · exact fun h => h rfl))
               | ((with_reducible refine DrawSt.walk [0, 1, 2, 3, 4, 5, 6, 7, 8, 9, 10, 11, 12, 13] mixed ?_ ?_); · decide +kernel)
               | (with_reducible refine NextSt.mk ?_)
               | (with_reducible refine OnBB.tt ?_)
               | (with_reducible refine OnBB.ff ?_)
               | ((with_reducible apply Cmp.yes); · omega)
               | ((with_reducible apply LoadSt.box); · (repeat (first | exact List.Mem.head _ | with_reducible apply List.mem_append_right)))
               | ((with_reducible apply StrIdx.m); (· exact natL _); · omega))
      conv => whnf
      refine FinSt.ret (by (try dsimp only); (try simp only [List.cons_append, List.nil_append]); (repeat (with_reducible exact List.Sublist.refl _))) ?_
      rfl
  · rw [show recC (cont d) at_ = none from if_neg (by rw [hcl]; exact fun hx => ha hx.1)]
    have hr : d.read at_ = ([], 1) := by
      have he : d.err at_ = 1 := by
        unfold Dk.err
        rw [if_neg (by rw [ho]; exact Bool.false_ne_true), if_neg (by omega)]
      unfold Dk.read
      rw [he]; rfl
    have e0 := e41 at_
    rw [hr] at e0
    refine GSpec.enter (fn := Try.f119) Try.func119 rfl (by kernel_rfl) ?_
    repeat' (conv => whnf
             first
             | (((with_reducible refine CallG.rd (f := 41) (X := .tuple ⟨[sV [], .int .i64 1]⟩) ?_ ?_); (· (apply GSpec.locRet (H := dHp r d)); (· (repeat (with_reducible exact Loc.hd))); (· exact e0 _))))
             | ((with_reducible refine DrawSt.walk [0, 1, 2, 3, 4, 5, 6, 7, 8, 9, 10, 11, 12, 13] mixed ?_ ?_); · decide +kernel)
             | (with_reducible refine NextSt.mk ?_)
             | (with_reducible refine OnBB.tt ?_)
             | ((with_reducible apply Cmp.yes); · omega)
             | ((with_reducible apply LoadSt.box); · (repeat (first | exact List.Mem.head _ | with_reducible apply List.mem_append_right))))
    conv => whnf
    refine FinSt.ret (by (try dsimp only); (try simp only [List.cons_append, List.nil_append]); (repeat (with_reducible exact List.Sublist.refl _))) ?_
    rfl
end Go.Proofs.Ytlbmlimaobkhpaa
/- The program's books: opening. -/
namespace Go.Proofs.Ytlbmlimaobkhpaa
open Go Go.Gv
set_option maxRecDepth 100000
set_option maxHeartbeats 4000000
set_option linter.unusedSimpArgs false
set_option linter.unusedVariables false
theorem recC_some {C : List Str} {a : Nat} {s : Str} (hC : ∀ s ∈ C, s.length = 64) (h : recC C a = some s) : 1 ≤ s.length ∧ s.length ≤ 4096 ∧ a + secN s.length ≤ C.length := by
  unfold recC at h
  split at h
  · rename_i hx
    obtain ⟨h1, h2, h3, h4, h5⟩ := hx
    have hl : s.length = num (C.getD a []) := by
      have h6 := Option.some.inj h
      rw [← h6, List.length_take, restC_len hC h1 _ (secN_pos _) h5]
      unfold secN; omega
    rw [hl]; exact ⟨h3, h4, h5⟩
  · cases h
/-- What opening gives. -/
def OpenR (q : Nat) (x : Option Bk × Int) (v : Value) (H : Hp) : Prop :=
  match x.1 with
  | some k => ∃ b, kOk b k ∧ H = kH q b k ∧ v = .tuple ⟨[pP b.p, .int .i64 x.2]⟩
  | none => H = [] ∧ v = .tuple ⟨[.pointer none, .int .i64 x.2]⟩
theorem OpenR.fin {r : Dr} {d : Dk} {p lp a : Nat} {ls : List Lg} {o : Option Bk × Int} {O : Hp} {h : View} (ho : o = (some ⟨ls.map Prod.snd, a, d.falls⟩, 0)) (hl : lOk ls)
    (hs : (dHp r d ++ (bkc p (bkV ⟨p, lp, ls⟩) r.p a d.falls :: lgc ⟨p, lp, ls⟩ :: lgHp ls)).Sublist O) : FinSt (.tuple ⟨[pP p, .int .i64 0]⟩) h O (New (dHp r d) (OpenR r.p o)) := by
  subst ho
  exact .mk h (kH r.p ⟨p, lp, ls⟩ ⟨ls.map Prod.snd, a, d.falls⟩ ++ dHp r d) ((Wk.drop hs).trans (Wk.perm List.perm_append_comm)) ⟨_, rfl, ⟨p, lp, ls⟩, ⟨rfl, hl⟩, rfl, rfl⟩
theorem openI_succ (C : List Str) (f a : Nat) (L : List (List En)) : openI C (f + 1) a L = if a < C.length then
      match recC C a with
      | none => (L, a)
      | some s => if s.length < 3 ∨ s.getD 0 0 ≠ 2 then (L, a) else if chg L (enOf s) then openI C f (a + secN s.length) (chgd L (enOf s)) else (L, a)
    else (L, a) := rfl
theorem f65 (r : Dr) (d : Dk) (B : Nat) (hd : d.okB B) (hB : B < 1000000000) (hk : dOk r d) (h : View) : GSpec Try.prog 65 [dP r] h (dHp r d) (New (dHp r d) (OpenR r.p (openV d))) := by
  have hcm := cont_mem hd
  have hcl := cont_len d
  have hsz := hd.size
  have e47 := fun h => f47 r d h
  cases ho : d.off
  · rw [ho] at e47
    refine GSpec.enter (fn := Try.f65) Try.func65 rfl (by kernel_rfl) ?_
    repeat' (conv => whnf
             first
             | ((with_reducible refine CallSt.rd (f := 47) (X := .bool true) ?_ ?_); (· exact e47 _))
             | (((with_reducible apply LoadSt.box); (· repeat (exact dHp_hd _ _))))
             | (with_reducible refine NextSt.mk ?_)
             | (with_reducible refine OnBB.tt ?_)
             | (with_reducible refine OnBB.ff ?_)
             | ((with_reducible refine AllocSt.mk ?_); intro _b _hb _hbO))
    conv => whnf
    obtain ⟨p, hp⟩ : ∃ x, x = _b := ⟨_, rfl⟩
    subst hp
    with_reducible apply CallSt.frame (f := 119) (H := dHp r d ++ [bkc p (.slice none 0 0) r.p 0 d.falls]) (G := []) (R := fun v O' => v = recR (recC (cont d) 0) ∧ O' = dHp r d ++ [bkc p (.slice none 0 0) r.p 0 d.falls])
    · rw [List.append_nil]; exact List.perm_append_comm (l₁ := [_])
    · exact (f119 p (.slice none 0 0) r d 0 d.falls B [] ho (by decide) hd hB hk _).mono fun v h' O' hx => ⟨hx.2, hx.1⟩
    rintro _ _ ⟨rfl, rfl⟩
    rw [List.append_nil]
    cases h0 : recC (cont d) 0 with
    | none =>
      have eo : openV d = (none, 95) := by
        unfold openV
        rw [if_neg (by rw [ho]; exact Bool.false_ne_true), h0]
      rw [eo]
      repeat' (conv => whnf
               first
               | (with_reducible refine NextSt.mk ?_)
               | (with_reducible refine OnBB.tt ?_)
               | (with_reducible refine OnBB.ff ?_))
      exact FinSt.new (H := []) (R := OpenR r.p (none, 95)) (show List.Sublist (dHp r d) _ from List.sublist_append_left _ _) ⟨rfl, rfl⟩
    | some s =>
      obtain ⟨hs1, hs2, hs3⟩ := recC_some hcm h0
      have g0 := nb_getD s 0
      have g1 := nb_getD s 1
      have hnl := nb_len s
      have hb0 : 1 ≤ s.length → (nb s).getD 0 0 < 256 := fun hx => nb_byt _ _ (getD_mem' (by omega))
      have hb1 : 2 ≤ s.length → (nb s).getD 1 0 < 256 := fun hx => nb_byt _ _ (getD_mem' (by omega))
      by_cases hh : headOk s
      · obtain ⟨a1, a2, a3, a4⟩ := id hh
        have a2' : (nb s).getD 0 0 = 1 := by rw [g0, a2]; rfl
        rw [← g1] at a3 a4
        have eo : openV d = (some ⟨(openI (cont d) (cont d).length 1 (List.replicate ((nb s).getD 1 0) [])).1, (openI (cont d) (cont d).length 1 (List.replicate ((nb s).getD 1 0) [])).2, d.falls⟩, 0) := by
          unfold openV
          rw [if_neg (by rw [ho]; exact Bool.false_ne_true), h0]
          simp only
          rw [if_pos hh, g1]
        rw [eo]
        have b1 := hb1 (by omega)
        have hsec : secN s.length = 1 := by rw [a1]; rfl
        repeat' (conv => whnf
                 first
                 | (((apply MakeSt.n (n := (nb s).getD 1 0) (z := [.slice none 0 0])); (· rfl); (· rfl); (· (show 24 * _ ≤ _; omega)); (· omega); (· rfl); (· rfl)); intro lb _hlb _hlbO; rw [show rows ((nb s).getD 1 0) [Value.slice none 0 0] = (List.replicate ((nb s).getD 1 0) (default : Lg)).map slV from rows_map (g := slV) (d := default) _])
                 | ((with_reducible apply CallSt.rd (f := 120)); · (apply GSpec.cast (sp := f120 _ ?_ _ _); (· (repeat' (rfl))); all_goals (omega)))
                 | (with_reducible refine NextSt.mk ?_)
                 | (with_reducible refine OnBB.tt ?_)
                 | (with_reducible refine OnBB.ff ?_)
                 | ((with_reducible apply NW.i64N); (· with_reducible rfl); (· omega))
                 | ((with_reducible apply Cmp.no); · omega)
                 | ((with_reducible apply StoreSt.box); (· (repeat (first | exact Upd.hd | apply Upd.tl | apply Upd.app))); (· rfl); (· rfl); (· rfl))
                 | ((with_reducible apply StrIdx.m); (· exact natL _); · omega))
        conv => whnf
        obtain ⟨n, hn⟩ : ∃ x, x = (nb s).getD 1 0 := ⟨_, rfl⟩
        rw [← hn] at a3 a4 eo ⊢
        have hwk : Wk h ((lb, .cells ⟨(List.replicate n (default : Lg)).map slV⟩ 63 (0, 0)) :: (dHp r d ++ [bkc p (.slice (some ⟨lb, 0, none⟩) n n) r.p (secN s.length) d.falls])) h (dHp r d ++ (bkc p (bkV ⟨p, lb, List.replicate n default⟩) r.p 1 d.falls :: lgc ⟨p, lb, List.replicate n default⟩ :: lgHp (List.replicate n default))) := by
          rw [hsec, lgHp_nil, show bkV ⟨p, lb, List.replicate n default⟩ = .slice (some ⟨lb, 0, none⟩) n n from by unfold bkV; rw [List.length_replicate]]
          exact Wk.perm ((List.perm_append_comm (l₁ := [_]) (l₂ := dHp r d ++ [_])).trans (by rw [List.append_assoc]; exact List.Perm.refl _))
        refine LoopSt.fix [7, 8, 9, 62, 63, 64, 65, 66, 67, 68, 69, 70, 71, 72, 73, 74, 75, 76, 77, 78, 79, 80, 81, 82, 83, 84, 85, 86, 87, 88, 89, 90, 91, 92, 93, 94, 95, 96, 97, 98, 99, 100, 101, 102, 103, 104, 105, 106, 107, 108, 109, 110, 111] (fun (_ : Nat × Nat × List Lg) => []) (fun (a, lp, ls) => dHp r d ++ (bkc p (bkV ⟨p, lp, ls⟩) r.p a d.falls :: lgc ⟨p, lp, ls⟩ :: lgHp ls)) (fun (a, lp, ls) => a ≤ d.safe.length ∧ lOk ls ∧ wfL (ls.map Prod.snd) ∧ ∃ f, (cont d).length ≤ a + f ∧ openI (cont d) (cont d).length 1 (List.replicate n []) = openI (cont d) f a (ls.map Prod.snd)) (fun (a, _) => d.safe.length - a) ((1, lb, List.replicate n default)) _ (hwk) (rfl) ?_ ?_ ?_
        · repeat' (first | exact True.intro | refine And.intro ?_ ?_ | rfl)
        · dsimp only
          rw [show (List.replicate n (default : Lg)).map Prod.snd = List.replicate n [] from logs_nil p lb n]
          exact ⟨by omega, lOk.nil n, wfL.nil a4, (cont d).length, by omega, rfl⟩
        · rintro ⟨a, lp, ls⟩ d2 ⟨ha, hl, hw, f, hf1, hf2⟩
          dsimp only at ha hl hw hf1 hf2 ⊢
          by_cases haN : a < d.safe.length
          · obtain ⟨f, rfl⟩ : ∃ g, f = g + 1 := ⟨f - 1, by omega⟩
            rw [openI_succ (cont d) f a, if_pos (show a < (cont d).length by omega)] at hf2
            have e119 := f119 p (bkV ⟨p, lp, ls⟩) r d a d.falls B (lgc ⟨p, lp, ls⟩ :: lgHp ls) ho (by omega) hd hB hk h
            cases h1 : recC (cont d) a with
            | none =>
              rw [h1] at hf2 e119
              repeat' (conv => whnf
                       first
                       | (((with_reducible apply CallG.rd (f := 49)); (· (apply GSpec.locRet (H := dHp _ _)); (· (repeat (with_reducible exact Loc.hd))); (· exact f49 _ _ _))))
                       | ((with_reducible refine CallSt.rd (f := 119) (X := recR none) ?_ ?_); (· exact e119))
                       | ((with_reducible refine DrawSt.walk [0, 1, 2, 3, 4, 5, 6] mixed ?_ ?_); · decide +kernel)
                       | (with_reducible refine NextSt.mk ?_)
                       | (with_reducible refine OnBB.tt ?_)
                       | (with_reducible refine OnBB.ff ?_)
                       | ((with_reducible apply Cmp.yes); · omega)
                       | ((with_reducible apply LoadSt.box); · (repeat (first | exact List.Mem.head _ | with_reducible apply List.mem_append_right))))
              exact OpenR.fin (by rw [hf2]) hl (List.Sublist.refl _)
            | some t =>
              obtain ⟨ht1, ht2, ht3⟩ := recC_some hcm h1
              have q0 := nb_getD t 0
              have q1 := nb_getD t 1
              have q2 := nb_getD t 2
              have htl := nb_len t
              rw [h1] at hf2 e119
              simp only at hf2
              by_cases c1 : t.length < 3
              · rw [if_pos (.inl c1)] at hf2
                repeat' (conv => whnf
                         first
                         | (((with_reducible apply CallG.rd (f := 49)); (· (apply GSpec.locRet (H := dHp _ _)); (· (repeat (with_reducible exact Loc.hd))); (· exact f49 _ _ _))))
                         | ((with_reducible refine CallSt.rd (f := 119) (X := recR (some t)) ?_ ?_); (· exact e119))
                         | ((with_reducible refine DrawSt.walk [0, 1, 2, 3, 4, 5, 6] mixed ?_ ?_); · decide +kernel)
                         | (with_reducible refine NextSt.mk ?_)
                         | (with_reducible refine OnBB.tt ?_)
                         | (with_reducible refine OnBB.ff ?_)
                         | ((with_reducible apply Cmp.yes); · omega)
                         | ((with_reducible apply LoadSt.box); · (repeat (first | exact List.Mem.head _ | with_reducible apply List.mem_append_right))))
                exact OpenR.fin (by rw [hf2]) hl (List.Sublist.refl _)
              · have d0 : (nb t).getD 0 0 < 256 := nb_byt _ _ (getD_mem' (by omega))
                have d1 : (nb t).getD 1 0 < 256 := nb_byt _ _ (getD_mem' (by omega))
                have d2 : (nb t).getD 2 0 < 256 := nb_byt _ _ (getD_mem' (by omega))
                by_cases c2 : t.getD 0 0 = 2
                · have c2' : (nb t).getD 0 0 = 2 := by rw [q0, c2]; rfl
                  rw [if_neg (fun hx => hx.elim c1 fun hx => hx c2)] at hf2
                  have hen : enV (enOf t) = [.int .i64 ((nb t).getD 1 0 : Nat), .int .i64 ((nb t).getD 2 0 : Nat), sV (t.drop 3)] := by
                    rw [q1, q2]; rfl
                  have e110 := f110 ⟨p, lp, ls⟩ r.p a d.falls (enOf t) hw hl (by show (t.drop 3).length < _; rw [List.length_drop]; omega) h
                  rw [hen] at e110
                  by_cases c3 : chg (ls.map Prod.snd) (enOf t)
                  · rw [if_pos c3] at hf2
                    rw [show decide (chg (Br.logs ⟨p, lp, ls⟩) (enOf t)) = true from decide_eq_true c3] at e110
                    have e121 := f121 ⟨p, lp, ls⟩ r.p a d.falls (enOf t) hw hl c3 h
                    rw [hen] at e121
                    repeat' (conv => whnf
                             first
                             | (((with_reducible apply CallG.rd (f := 49)); (· (apply GSpec.locRet (H := dHp _ _)); (· (repeat (with_reducible exact Loc.hd))); (· exact f49 _ _ _))))
                             | ((with_reducible refine CallSt.rd (f := 119) (X := recR (some t)) ?_ ?_); (· exact e119))
                             | (((with_reducible apply CallSt.rd (f := 110) (X := .bool true)); (· apply GSpec.locRet (H := bkc p (bkV ⟨p, lp, ls⟩) r.p a d.falls :: lgc ⟨p, lp, ls⟩ :: lgHp ls); (· (repeat (first | with_reducible exact Loc.last | with_reducible apply Loc.tl | with_reducible apply Loc.skip))); (· exact e110))))
                             | ((with_reducible refine DrawSt.walk [0, 1, 2, 3, 4, 5, 6] mixed ?_ ?_); · decide +kernel)
                             | ((with_reducible refine DrawSt.walk [0, 1, 2, 3, 4, 5, 6, 7, 8, 9, 10] mixed ?_ ?_); · decide +kernel)
                             | (with_reducible refine NextSt.mk ?_)
                             | (with_reducible refine OnBB.tt ?_)
                             | (with_reducible refine OnBB.ff ?_)
                             | ((with_reducible apply NW.i64N); (· with_reducible rfl); (· omega))
                             | ((with_reducible apply Cmp.yes); · omega)
                             | ((with_reducible apply Cmp.no); · omega)
                             | ((with_reducible apply LoadSt.box); · (repeat (first | exact List.Mem.head _ | with_reducible apply List.mem_append_right)))
                             | ((with_reducible apply LoadSt.boxAgg); · (repeat (exact List.Mem.head _)))
                             | ((with_reducible refine AllocSt.mk ?_); intro _b _hb _hbO)
                             | ((with_reducible apply StoreSt.box); (· (repeat (exact Upd.hd))); (· rfl); (· rfl); (· rfl))
                             | ((with_reducible apply StrIdx.m); (· exact natL _); · omega)
                             | ((with_reducible apply StrSl.lo); (· exact natL _); (· (omega))))
                    conv => whnf
                    with_reducible apply CallSt.loc (f := 121) (H := bkc p (bkV ⟨p, lp, ls⟩) r.p a d.falls :: lgc ⟨p, lp, ls⟩ :: lgHp ls) (R := ChR ⟨p, lp, ls⟩ r.p a d.falls (enOf t))
                    · (repeat (first | with_reducible exact Loc.last | with_reducible apply Loc.tl | with_reducible apply Loc.skip))
                    · exact e121
                    rintro _ _ ⟨⟨p3, lp3, ls3⟩, hp3, hlg3, hl3, rfl, rfl⟩
                    obtain rfl : p3 = p := hp3
                    repeat' (conv => whnf
                             first
                             | ((with_reducible refine DrawSt.walk [0, 1, 2, 3, 4, 5, 6, 7, 8, 9, 10] mixed ?_ ?_); · decide +kernel)
                             | ((with_reducible apply CallG.rd (f := 120)); · (apply GSpec.cast (sp := f120 _ ?_ _ _); (· (repeat' (rfl))); all_goals (omega)))
                             | (with_reducible refine NextSt.mk ?_)
                             | ((with_reducible apply NW.addN); (· with_reducible rfl); (· with_reducible rfl); (· omega))
                             | ((with_reducible apply LoadSt.box); · (repeat (first | exact List.Mem.head _ | with_reducible apply List.mem_append_right | with_reducible apply List.mem_cons_of_mem)))
                             | ((with_reducible apply StoreSt.box); (· (repeat (first | exact Upd.hd | apply Upd.tl | apply Upd.app))); (· rfl); (· rfl); (· rfl)))
                    have hlg4 : ls3.map Prod.snd = chgd (ls.map Prod.snd) (enOf t) := hlg3
                    have hsp := secN_pos t.length
                    refine RoundFix.mk (a + secN t.length, lp3, ls3) ?_ ?_ _ rfl (Wk.drop (List.Sublist.cons _ (List.Sublist.refl _))) ?_
                    · dsimp only; omega
                    · repeat' (first | exact True.intro | refine And.intro ?_ ?_ | rfl)
                    · exact ⟨by omega, hl3, by rw [hlg4]; exact hw.chgd c3, f, by omega, by rw [hf2, hlg4]⟩
                  · rw [if_neg c3] at hf2
                    rw [show decide (chg (Br.logs ⟨p, lp, ls⟩) (enOf t)) = false from decide_eq_false c3] at e110
                    repeat' (conv => whnf
                             first
                             | (((with_reducible apply CallG.rd (f := 49)); (· (apply GSpec.locRet (H := dHp _ _)); (· (repeat (with_reducible exact Loc.hd))); (· exact f49 _ _ _))))
                             | ((with_reducible refine CallSt.rd (f := 119) (X := recR (some t)) ?_ ?_); (· exact e119))
                             | (((with_reducible apply CallSt.rd (f := 110) (X := .bool false)); (· apply GSpec.locRet (H := bkc p (bkV ⟨p, lp, ls⟩) r.p a d.falls :: lgc ⟨p, lp, ls⟩ :: lgHp ls); (· (repeat (first | with_reducible exact Loc.last | with_reducible apply Loc.tl | with_reducible apply Loc.skip))); (· exact e110))))
                             | ((with_reducible refine DrawSt.walk [0, 1, 2, 3, 4, 5, 6] mixed ?_ ?_); · decide +kernel)
                             | ((with_reducible refine DrawSt.walk [0, 1, 2, 3, 4, 5, 6, 7, 8, 9, 10] mixed ?_ ?_); · decide +kernel)
                             | (with_reducible refine NextSt.mk ?_)
                             | (with_reducible refine OnBB.tt ?_)
                             | (with_reducible refine OnBB.ff ?_)
                             | ((with_reducible apply NW.i64N); (· with_reducible rfl); (· omega))
                             | ((with_reducible apply Cmp.yes); · omega)
                             | ((with_reducible apply Cmp.no); · omega)
                             | ((with_reducible apply LoadSt.box); · (repeat (first | exact List.Mem.head _ | with_reducible apply List.mem_append_right)))
                             | ((with_reducible apply LoadSt.boxAgg); · (repeat (exact List.Mem.head _)))
                             | ((with_reducible refine AllocSt.mk ?_); intro _b _hb _hbO)
                             | ((with_reducible apply StoreSt.box); (· (repeat (exact Upd.hd))); (· rfl); (· rfl); (· rfl))
                             | ((with_reducible apply StrIdx.m); (· exact natL _); · omega)
                             | ((with_reducible apply StrSl.lo); (· exact natL _); (· (omega))))
                    exact OpenR.fin (by rw [hf2]) hl (List.Sublist.cons _ (List.Sublist.refl _))
                · have c2' : (nb t).getD 0 0 ≠ 2 := fun hx => c2 (UInt8.toNat_inj.1 (by rw [← q0, hx]; rfl))
                  rw [if_pos (.inr c2)] at hf2
                  repeat' (conv => whnf
                           first
                           | (((with_reducible apply CallG.rd (f := 49)); (· (apply GSpec.locRet (H := dHp _ _)); (· (repeat (with_reducible exact Loc.hd))); (· exact f49 _ _ _))))
                           | ((with_reducible refine CallSt.rd (f := 119) (X := recR (some t)) ?_ ?_); (· exact e119))
                           | ((with_reducible refine DrawSt.walk [0, 1, 2, 3, 4, 5, 6] mixed ?_ ?_); · decide +kernel)
                           | (with_reducible refine NextSt.mk ?_)
                           | (with_reducible refine OnBB.tt ?_)
                           | (with_reducible refine OnBB.ff ?_)
                           | ((with_reducible apply Cmp.yes); · omega)
                           | ((with_reducible apply Cmp.no); · omega)
                           | ((with_reducible apply LoadSt.box); · (repeat (first | exact List.Mem.head _ | with_reducible apply List.mem_append_right)))
                           | ((with_reducible apply StrIdx.m); (· exact natL _); · omega))
                  exact OpenR.fin (by rw [hf2]) hl (List.Sublist.refl _)
          · have hf3 : openI (cont d) f a (ls.map Prod.snd) = (ls.map Prod.snd, a) := by
              cases f with
              | zero => rfl
              | succ f => unfold openI; rw [if_neg (by omega)]
            repeat' (conv => whnf
                     first
                     | (((with_reducible apply CallG.rd (f := 49)); (· (apply GSpec.locRet (H := dHp _ _)); (· (repeat (with_reducible exact Loc.hd))); (· exact f49 _ _ _))))
                     | ((with_reducible refine DrawSt.walk [0, 1, 2, 3, 4, 5, 6] mixed ?_ ?_); · decide +kernel)
                     | (with_reducible refine NextSt.mk ?_)
                     | (with_reducible refine OnBB.ff ?_)
                     | ((with_reducible apply Cmp.no); · omega)
                     | ((with_reducible apply LoadSt.box); · (repeat (first | exact List.Mem.head _ | with_reducible apply List.mem_append_right))))
            exact OpenR.fin (by rw [hf2, hf3]) hl (List.Sublist.refl _)
      · have eo : openV d = (none, 95) := by
          unfold openV
          rw [if_neg (by rw [ho]; exact Bool.false_ne_true), h0]
          simp only
          rw [if_neg hh]
        rw [eo]
        by_cases a1 : s.length = 2
        · have b0 := hb0 (by omega)
          have b1 := hb1 (by omega)
          by_cases a2 : (nb s).getD 0 0 = 1
          · by_cases a3 : 1 ≤ (nb s).getD 1 0
            · have a4 : 8 < (nb s).getD 1 0 := Nat.lt_of_not_le fun hx => hh ⟨a1, UInt8.toNat_inj.1 (by rw [← g0, a2]; rfl), by omega, by omega⟩
              repeat' (conv => whnf
                       first
                       | (with_reducible refine NextSt.mk ?_)
                       | (with_reducible refine OnBB.tt ?_)
                       | (with_reducible refine OnBB.ff ?_)
                       | ((with_reducible apply NW.i64N); (· with_reducible rfl); (· omega))
                       | ((with_reducible apply Cmp.yes); · omega)
                       | ((with_reducible apply Cmp.no); · omega)
                       | ((with_reducible apply StrIdx.m); (· exact natL _); · omega))
              exact FinSt.new (H := []) (R := OpenR r.p (none, 95)) (show List.Sublist (dHp r d) _ from List.sublist_append_left _ _) ⟨rfl, rfl⟩
            · repeat' (conv => whnf
                       first
                       | (with_reducible refine NextSt.mk ?_)
                       | (with_reducible refine OnBB.tt ?_)
                       | (with_reducible refine OnBB.ff ?_)
                       | ((with_reducible apply Cmp.yes); · omega)
                       | ((with_reducible apply Cmp.no); · omega)
                       | ((with_reducible apply StrIdx.m); (· exact natL _); · omega))
              exact FinSt.new (H := []) (R := OpenR r.p (none, 95)) (show List.Sublist (dHp r d) _ from List.sublist_append_left _ _) ⟨rfl, rfl⟩
          · repeat' (conv => whnf
                     first
                     | (with_reducible refine NextSt.mk ?_)
                     | (with_reducible refine OnBB.tt ?_)
                     | (with_reducible refine OnBB.ff ?_)
                     | ((with_reducible apply Cmp.yes); · omega)
                     | ((with_reducible apply Cmp.no); · omega)
                     | ((with_reducible apply StrIdx.m); (· exact natL _); · omega))
            exact FinSt.new (H := []) (R := OpenR r.p (none, 95)) (show List.Sublist (dHp r d) _ from List.sublist_append_left _ _) ⟨rfl, rfl⟩
        · repeat' (conv => whnf
                   first
                   | (with_reducible refine NextSt.mk ?_)
                   | (with_reducible refine OnBB.tt ?_)
                   | (with_reducible refine OnBB.ff ?_)
                   | ((with_reducible apply Cmp.yes); · omega))
          exact FinSt.new (H := []) (R := OpenR r.p (none, 95)) (show List.Sublist (dHp r d) _ from List.sublist_append_left _ _) ⟨rfl, rfl⟩
  · rw [ho] at e47
    have eo : openV d = (none, 93) := if_pos ho
    rw [eo]
    refine GSpec.enter (fn := Try.f65) Try.func65 rfl (by kernel_rfl) ?_
    repeat' (conv => whnf
             first
             | ((with_reducible refine CallSt.rd (f := 47) (X := .bool false) ?_ ?_); (· exact e47 _))
             | (with_reducible refine NextSt.mk ?_)
             | (with_reducible refine OnBB.tt ?_)
             | (with_reducible refine OnBB.ff ?_))
    exact FinSt.new (H := []) (R := OpenR r.p (none, 93)) (by (try dsimp only); (try simp only [List.cons_append, List.nil_append]); (repeat (with_reducible exact List.Sublist.refl _))) ⟨rfl, rfl⟩
end Go.Proofs.Ytlbmlimaobkhpaa
