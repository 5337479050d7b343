/- The program's Parse. -/
import Derived.Test.YtaahjlhfmkjefaaGreatDoorMk
set_option linter.unusedVariables false
set_option linter.unusedSimpArgs false
set_option linter.unusedSectionVars false
/- The program's Parse. -/
namespace Go.Proofs.YtaahjlhfmkjefaaGreatDoor
open Go Go.Gv
set_option maxRecDepth 100000
set_option maxHeartbeats 8000000
set_option linter.unusedSimpArgs false
set_option linter.unusedVariables false
theorem spl_le {c : UInt8} : ∀ {l x : List UInt8}, x ∈ spl c l → x.length ≤ l.length
  | [], x, h => by
    rw [spl, List.mem_singleton] at h
    rw [h]; exact Nat.le_refl _
  | b :: l, x, h => by
    have ih := fun y => spl_le (c := c) (l := l) (x := y)
    obtain ⟨y, ys, e⟩ := List.exists_cons_of_ne_nil (spl_ne c l)
    unfold spl at h
    rw [e] at h ih
    rw [List.length_cons]
    split at h
    · rcases List.mem_cons.1 h with rfl | h
      · exact Nat.zero_le _
      · have := ih x h; omega
    · rcases List.mem_cons.1 h with rfl | h
      · have := ih y List.mem_cons_self
        rw [List.length_cons]
        exact Nat.succ_le_succ this
      · have := ih x (List.mem_cons_of_mem _ h); omega
theorem cut_le (l sep : List UInt8) : (Lib.cut l sep).1.length ≤ l.length ∧ (Lib.cut l sep).2.1.length ≤ l.length := by
  unfold Lib.cut
  split
  · exact ⟨by rw [List.length_take]; omega, by rw [List.length_drop]; omega⟩
  · exact ⟨Nat.le_refl _, Nat.zero_le _⟩
theorem allT_all {α β : Type} {f : α → Option β} {g : α → β} : ∀ {l : List α}, (∀ x ∈ l, f x = some (g x)) → allT f l = some (l.map g)
  | [], _ => rfl
  | x :: l, h => by
    rw [allT, h x List.mem_cons_self, allT_all (g := g) fun y hy => h y (List.mem_cons_of_mem _ hy)]
    rfl
theorem allT_none {α β : Type} {f : α → Option β} : ∀ {l : List α} {x : α}, x ∈ l → f x = none → allT f l = none
  | y :: l, x, hx, h => by
    rw [allT]
    rcases List.mem_cons.1 hx with rfl | hx
    · rw [h]; rfl
    · rw [allT_none hx h]
      cases f y <;> rfl
/-- An entry as it is read. -/
def entN (t : List UInt8) : Sh := ⟨cntN (Lib.cut t [61]).1, cntN (Lib.cut t [61]).2.1⟩
theorem cntT_is {l : List UInt8} (h : (cntT l).isSome = true) : cntT l = some (cntN l) := by
  obtain ⟨n, hn⟩ := Option.isSome_iff_exists.1 h
  rw [hn, cntN_some hn]
theorem cntT_isn {l : List UInt8} (h : (cntT l).isSome = false) : cntT l = none := by
  cases e : cntT l with
  | none => rfl
  | some n => rw [e] at h; cases h
theorem entT_is {t : List UInt8} (h : (Lib.cut t [61]).2.2 = true) (h1 : (cntT (Lib.cut t [61]).1).isSome = true) (h2 : (cntT (Lib.cut t [61]).2.1).isSome = true) : entT t = some (entN t) := by
  unfold entT
  rw [if_pos h, cntT_is h1, cntT_is h2]; rfl
theorem entT_isn {t : List UInt8} (h : ¬ ((Lib.cut t [61]).2.2 = true ∧ (cntT (Lib.cut t [61]).1).isSome = true ∧ (cntT (Lib.cut t [61]).2.1).isSome = true)) : entT t = none := by
  unfold entT
  split
  · rename_i h0
    cases e1 : cntT (Lib.cut t [61]).1 with
    | none => rfl
    | some d =>
      cases e2 : cntT (Lib.cut t [61]).2.1 with
      | none => rfl
      | some w => exact absurd ⟨h0, by rw [e1]; rfl, by rw [e2]; rfl⟩ h
  · rfl
/-- The array of numbers as it fills. -/
def hdA (L : List (List UInt8)) (i : Nat) : List Int := (List.range 6).map fun j => if j < i then cntN (L.getD (j + 1) []) else 0
theorem hdA_set (L : List (List UInt8)) {i : Nat} (h : i < 6) : (hdA L i).set i (cntN (L.getD (i + 1) [])) = hdA L (i + 1) := by
  apply List.ext_getElem?
  intro j
  unfold hdA
  rw [List.getElem?_set, List.getElem?_map, List.getElem?_map, List.length_map, List.length_range]
  by_cases hj : i = j
  · subst hj
    rw [if_pos rfl, if_pos h, List.getElem?_range h]
    simp
  · rw [if_neg hj]
    by_cases h6 : j < 6
    · rw [List.getElem?_range h6]
      simp only [Option.map_some]
      congr 1
      by_cases h1 : j < i
      · rw [if_pos h1, if_pos (by omega)]
      · rw [if_neg h1, if_neg (by omega)]
    · rw [List.getElem?_eq_none (by rw [List.length_range]; omega)]
      rfl
theorem hdA_all (L : List (List UInt8)) (h : 7 ≤ L.length) : hdA L 6 = ((L.drop 1).take 6).map cntN := by
  obtain ⟨a, L, rfl⟩ := List.exists_cons_of_length_pos (show 0 < L.length by omega)
  simp only [List.length_cons] at h
  match L, h with
  | b :: c :: d :: e :: f :: g :: L, _ => rfl
theorem SlSl.loG {a : Option Addr} {len cap sz l : Nat} {k : IntKind} {x : Int} {K : Value → Prop} (hx : x = l) (h1 : l ≤ len) (h2 : len ≤ cap) (hs : sz = 1) (hk : ∀ a2, a2 = (if cap = l then a else a.map (·.add (l * 1))) → K (.slice a2 (len - l) (cap - l))) : SlSl a len cap (some (.int k x)) none none sz K :=
  SlSl.lo hx h1 h2 (by subst hs; exact hk _ rfl)
theorem y7 (s : List UInt8) (hs : s.length ≤ 1048576) (h : View) (hx : VarV h) (hpw : PowV h) (O : Hp) : GSpec Tryz.prog 7 [sV s] h O (New O (ParR s)) := by
  have e25 := fun O => y25 s (by omega) h hx O
  have hpar : parB s = if 7 ≤ (spl 32 s).length ∧ (spl 32 s).getD 0 [] = word then (allT cntT (((spl 32 s).drop 1).take 6)).bind fun l => (allT entT ((spl 32 s).drop 7)).map fun m => mkP l m else none := rfl
  have hpv : parB s = none → parV s = none := fun e => by unfold parV; rw [e]; rfl
  have hle : ∀ x ∈ spl 32 s, x.length ≤ 1048576 := fun x hx => Nat.le_trans (spl_le hx) hs
  have e26 := fun l (hl : l.length ≤ 1048576) O => y26 l hl h hx hpw O
  have e27 := fun l (hl : l.length ≤ 1048576) O => y27 l (by omega) h hx O
  have hsl : (spl 32 s).length ≤ 1048577 := by
    rw [← splitB_spl 32 ⟨⟨s⟩⟩, List.length_map, Lib.splitB_all _ (by decide) 0 _ _ rfl]
    have := Lib.countB_le ⟨#[32]⟩ (by decide) s.length ⟨⟨s⟩⟩ (Nat.le_refl _)
    have h2 : (⟨⟨s⟩⟩ : ByteArray).size = s.length := rfl
    omega
  obtain ⟨L, hL⟩ : ∃ L, spl 32 s = L := ⟨_, rfl⟩
  rw [hL] at e25 hpar hle hsl
  have hat : ∀ i < L.length, (L.getD i []).length ≤ 1048576 := fun i hi => hle _ (by
    rw [List.getD_eq_getElem?_getD, List.getElem?_eq_getElem hi]
    exact List.getElem_mem _)
  by_cases h7 : 7 ≤ L.length
  · by_cases hw : L.getD 0 [] = word
    · rw [if_pos ⟨h7, hw⟩] at hpar
      rw [show word = [112, 105, 108, 108, 111, 119] from rfl] at hw
      refine GSpec.enter (fn := Tryz.f7) Tryz.func7 rfl (by kernel_rfl) ?_
      repeat' (conv => whnf
               first
               | (((with_reducible refine CallSt.new (f := 25) (R := (LsR stV L)) ?_ ?_); (· exact e25 _); rintro _ H1 ⟨la, lc, rfl, hlr, hlc⟩))
               | (with_reducible refine NextSt.mk ?_)
               | (with_reducible refine OnBB.ff ?_)
               | ((with_reducible apply Cmp.no); · first | omega | (with_reducible assumption))
               | ((with_reducible refine AllocSt.mk ?_); intro _b _hb _hbO))
      rw [show stV = fun l => [sV l] from rfl, flat_one] at hlr
      repeat' (conv => whnf
               first
               | (((with_reducible apply Cmp.no); · exact fun h => h hw))
               | (with_reducible refine NextSt.mk ?_)
               | (with_reducible refine OnBB.ff ?_)
               | ((with_reducible apply LoadSt.rdS); (· (repeat (first | with_reducible assumption | (with_reducible apply Rd.any; with_reducible assumption) | (with_reducible apply Buf.rd; with_reducible assumption) | (with_reducible apply Rd.appL; with_reducible assumption) | (with_reducible apply Rd.appL; with_reducible apply Buf.rd; with_reducible assumption) | (with_reducible apply Rd.ofH; with_reducible assumption) | (with_reducible apply Rd.ofH1; with_reducible assumption) | with_reducible apply Rd.cons | with_reducible apply Rd.appR))); · (first | omega | (simp only [List.length_map, List.length_append, List.length_cons, List.length_nil, List.length_take, List.length_drop, List.length_replicate, List.length_set] at *; omega)))
               | ((with_reducible refine AllocSt.mk ?_); intro _b _hb _hbO)
               | ((with_reducible apply IdxSl.rd1); (· with_reducible assumption); (· rfl); (· first | with_reducible rfl | exact natL _); (· (first | omega | (simp only [List.length_map, List.length_append, List.length_cons, List.length_nil, List.length_take, List.length_drop, List.length_replicate, List.length_set] at *; omega))); · (first | omega | (simp only [List.length_map, List.length_append, List.length_cons, List.length_nil, List.length_take, List.length_drop, List.length_replicate, List.length_set] at *; omega))))
      rename_i b2 _ _
      obtain ⟨b5, hb5⟩ : ∃ x, x = _b := ⟨_, rfl⟩
      subst hb5
      clear e25
      refine LoopSt.fix [3, 6, 7, 8, 31, 32, 33, 34, 35, 36, 37, 38, 39, 40, 41, 42, 43, 44, 45, 46, 47, 48, 49] (fun (i : Nat) => [(31, iN i)]) (fun i => (b5, .cells ⟨(hdA L i).map zI⟩ 70 (0, 0)) :: (H1 ++ ((b2, .cells ⟨[.int .i64 0, .int .i64 0, .int .i64 0, .int .i64 0, .int .i64 0, .int .i64 0, .slice none 0 0]⟩ 24 (0, 0)) :: O))) (fun i => i ≤ 6 ∧ ∀ j < i, (cntT (L.getD (j + 1) [])).isSome = true) (fun i => 6 - i) (0) _ (Wk.refl _ _) (rfl) ?_ ?_ ?_
      · repeat' (first | exact True.intro | refine And.intro ?_ ?_ | rfl | exact congrArg (Value.int _) (by omega) | exact congrArg (fun n => Value.slice _ n _) (by (try dsimp only); omega))
      · exact ⟨Nat.zero_le _, fun j hj => by omega⟩
      · rintro i d ⟨hi, hall⟩
        by_cases hi6 : i < 6
        · have hset := hdA_set L hi6
          have e26i := e26 (L.getD (i + 1) []) (hat (i + 1) (by omega))
          have hlen6 : (hdA L i).length = 6 := by unfold hdA; simp
          by_cases hc : (cntT (L.getD (i + 1) [])).isSome = true
          · rw [hc] at e26i
            generalize hx1 : cntN (L.getD (i + 1) []) = x1 at *
            repeat' (conv => whnf
                     first
                     | (((with_reducible refine CallSt.rd (f := 26) (X := .tuple ⟨[.int .i64 x1, .bool true]⟩) ?_ ?_); (· exact e26i _)))
                     | (with_reducible refine NextSt.mk ?_)
                     | (with_reducible refine OnBB.tt ?_)
                     | (with_reducible refine OnBB.ff ?_)
                     | ((with_reducible apply NW.addN); (· first | with_reducible rfl | exact natL _); (· first | with_reducible rfl | exact natL _); (· omega))
                     | ((with_reducible apply Cmp.yes); · first | omega | (with_reducible assumption) | (with_reducible rfl))
                     | ((with_reducible apply LoadSt.rdS); (· (repeat (first | with_reducible assumption | (with_reducible apply Rd.any; with_reducible assumption) | (with_reducible apply Buf.rd; with_reducible assumption) | (with_reducible apply Rd.appL; with_reducible assumption) | (with_reducible apply Rd.appL; with_reducible apply Buf.rd; with_reducible assumption) | (with_reducible apply Rd.ofH; with_reducible assumption) | (with_reducible apply Rd.ofH1; with_reducible assumption) | with_reducible apply Rd.cons | with_reducible apply Rd.appR))); · (first | omega | (simp only [List.length_map, List.length_append, List.length_cons, List.length_nil, List.length_take, List.length_drop, List.length_replicate, List.length_set] at *; omega)))
                     | ((with_reducible apply StoreSt.mapd); (· (repeat (first | exact Upd.hd | apply Upd.tl | apply Upd.app))); (· (first | exact Nat.zero_add _ | with_reducible rfl | omega | (show _ + _ * 1 = _; omega))); (· rfl); (· rfl); (· (first | omega | (simp only [List.length_map, List.length_append, List.length_cons, List.length_nil, List.length_take, List.length_drop, List.length_replicate, List.length_set] at *; omega))); · (first | exact Or.inl (Nat.le_refl _) | omega))
                     | ((with_reducible apply IdxArrP.n1); (· rfl); (· first | with_reducible rfl | exact natL _); · omega)
                     | ((with_reducible apply IdxSl.rd1); (· with_reducible assumption); (· rfl); (· first | with_reducible rfl | exact natL _); (· (first | omega | (simp only [List.length_map, List.length_append, List.length_cons, List.length_nil, List.length_take, List.length_drop, List.length_replicate, List.length_set] at *; omega))); · (first | omega | (simp only [List.length_map, List.length_append, List.length_cons, List.length_nil, List.length_take, List.length_drop, List.length_replicate, List.length_set] at *; omega))))
            refine RoundFix.mk (i + 1) ?_ ?_ _ rfl (by rw [← hset]; exact Wk.refl _ _) ?_
            · omega
            · repeat' (first | exact True.intro | refine And.intro ?_ ?_ | rfl | exact congrArg (Value.int _) (by omega) | exact congrArg (fun n => Value.slice _ n _) (by (try dsimp only); omega))
            · refine ⟨hi6, fun j hj => ?_⟩
              by_cases e : j = i
              · rw [e]; exact hc
              · exact hall j (by omega)
          · have hcf : (cntT (L.getD (i + 1) [])).isSome = false := by simpa using hc
            rw [hcf] at e26i
            have hno : parV s = none := hpv (by
              rw [hpar, allT_none (x := L.getD (i + 1) []) ?_ (cntT_isn hcf)]
              · rfl
              · rw [List.getD_eq_getElem?_getD, List.getElem?_eq_getElem (show i + 1 < L.length by omega)]
                refine List.mem_iff_getElem?.2 ⟨i, ?_⟩
                rw [List.getElem?_take, if_pos hi6, List.getElem?_drop, show 1 + i = i + 1 by omega, List.getElem?_eq_getElem (show i + 1 < L.length by omega)]
                rfl)
            generalize cntN (L.getD (i + 1) []) = x1 at *
            repeat' (conv => whnf
                     first
                     | (((with_reducible refine CallSt.rd (f := 26) (X := .tuple ⟨[.int .i64 x1, .bool false]⟩) ?_ ?_); (· exact e26i _)))
                     | (with_reducible refine NextSt.mk ?_)
                     | (with_reducible refine OnBB.tt ?_)
                     | (with_reducible refine OnBB.ff ?_)
                     | ((with_reducible apply NW.addN); (· first | with_reducible rfl | exact natL _); (· first | with_reducible rfl | exact natL _); (· omega))
                     | ((with_reducible apply Cmp.yes); · first | omega | (with_reducible assumption) | (with_reducible rfl))
                     | ((with_reducible apply LoadSt.boxAgg); · (repeat (first | exact List.Mem.head _ | with_reducible apply List.mem_append_right | with_reducible apply List.mem_cons_of_mem)))
                     | ((with_reducible apply LoadSt.rdS); (· (repeat (first | with_reducible assumption | (with_reducible apply Rd.any; with_reducible assumption) | (with_reducible apply Buf.rd; with_reducible assumption) | (with_reducible apply Rd.appL; with_reducible assumption) | (with_reducible apply Rd.appL; with_reducible apply Buf.rd; with_reducible assumption) | (with_reducible apply Rd.ofH; with_reducible assumption) | (with_reducible apply Rd.ofH1; with_reducible assumption) | with_reducible apply Rd.cons | with_reducible apply Rd.appR))); · (first | omega | (simp only [List.length_map, List.length_append, List.length_cons, List.length_nil, List.length_take, List.length_drop, List.length_replicate, List.length_set] at *; omega)))
                     | ((with_reducible apply StoreSt.box); (· (repeat (first | exact Upd.hd | apply Upd.tl | apply Upd.app))); (· rfl); (· rfl); (· rfl))
                     | ((with_reducible apply IdxSl.rd1); (· with_reducible assumption); (· rfl); (· first | with_reducible rfl | exact natL _); (· (first | omega | (simp only [List.length_map, List.length_append, List.length_cons, List.length_nil, List.length_take, List.length_drop, List.length_replicate, List.length_set] at *; omega))); · (first | omega | (simp only [List.length_map, List.length_append, List.length_cons, List.length_nil, List.length_take, List.length_drop, List.length_replicate, List.length_set] at *; omega))))
            conv => whnf
            refine FinSt.new (H := []) (by (try dsimp only); (try simp only [List.cons_append, List.nil_append]); (repeat (first | with_reducible exact List.Sublist.refl _ | with_reducible exact List.nil_sublist _ | with_reducible apply List.Sublist.cons_cons | with_reducible apply sub_app | apply List.Sublist.cons_cons | apply sub_app | with_reducible apply List.Sublist.cons | with_reducible apply sub_skip))) ?_
            exact par_none hno []
        · have : i = 6 := by omega
          subst this
          have hall6 : allT cntT ((L.drop 1).take 6) = some (((L.drop 1).take 6).map cntN) := allT_all fun x hx => by
            obtain ⟨j, hj⟩ := List.mem_iff_getElem?.1 hx
            rw [List.getElem?_take] at hj
            split at hj
            · rename_i hj6
              rw [List.getElem?_drop] at hj
              have hx2 : x = L.getD (j + 1) [] := by
                rw [List.getD_eq_getElem?_getD, show j + 1 = 1 + j by omega, hj]; rfl
              rw [hx2]
              exact cntT_is (hall j hj6)
            · cases hj
          rw [hall6, ← hdA_all L h7] at hpar
          have hlit : hdA L 6 = [cntN (L.getD 1 []), cntN (L.getD 2 []), cntN (L.getD 3 []), cntN (L.getD 4 []), cntN (L.getD 5 []), cntN (L.getD 6 [])] := rfl
          rw [hlit] at hpar ⊢
          clear hall6 hall hlit
          generalize cntN (L.getD 1 []) = n1 at *
          generalize cntN (L.getD 2 []) = n2 at *
          generalize cntN (L.getD 3 []) = n3 at *
          generalize cntN (L.getD 4 []) = n4 at *
          generalize cntN (L.getD 5 []) = n5 at *
          generalize cntN (L.getD 6 []) = n6 at *
          repeat' (conv => whnf
                   first
                   | (((with_reducible apply SlSl.loG (l := 7)); (· rfl); (· omega); (· omega); (· rfl); intro la2 hla2))
                   | (with_reducible refine NextSt.mk ?_)
                   | (with_reducible refine OnBB.ff ?_)
                   | ((with_reducible apply Cmp.no); · first | omega | (with_reducible assumption))
                   | ((with_reducible apply LoadSt.box); · (repeat (first | exact List.Mem.head _ | with_reducible apply List.mem_append_right | with_reducible apply List.mem_cons_of_mem)))
                   | ((with_reducible refine AllocSt.mk ?_); intro _b _hb _hbO)
                   | ((with_reducible apply StoreSt.box); (· (repeat (first | exact Upd.hd | apply Upd.tl | apply Upd.app))); (· rfl); (· rfl); (· rfl))
                   | ((with_reducible apply IdxArrP.n1); (· rfl); (· first | with_reducible rfl | exact natL _); · omega))
          obtain ⟨b9, hb9⟩ : ∃ x, x = _b := ⟨_, rfl⟩
          subst hb9
          have hr2 : RdH H1 la2 ((L.drop 7).map sV) := by
            rw [hla2, List.map_drop]
            exact Rd.slice hlr 7 lc 1 (fun e => by rw [List.length_map]; omega)
          have hEl : (L.drop 7).length = L.length - 7 := List.length_drop
          have hEat : ∀ i < L.length - 7, ((L.drop 7).getD i []).length ≤ 1048576 := fun i hi => by
            rw [List.getD_eq_getElem?_getD, List.getElem?_drop, ← List.getD_eq_getElem?_getD]
            exact hat _ (by omega)
          generalize L.drop 7 = E at *
          clear hla2
          refine LoopSt.fix [3, 11, 12, 13, 14, 15, 16, 17, 18, 66, 67, 68, 69, 70, 71, 72, 73, 74, 75, 76, 77, 78, 79, 80, 81, 82, 83, 84, 85, 86, 87, 88, 89, 90, 91, 92, 93, 94, 95, 96, 97, 98, 99, 100, 101, 102, 103, 104, 105] (fun ((k, B) : Nat × Buf) => [(66, iN k)]) (fun (k, B) => B.hp 66 (((E.take k).map entN).flatMap shV) ++ ((b9, .cells ⟨[.int .i64 n1, .int .i64 n2, .int .i64 n3, .int .i64 n4, .int .i64 n5, .int .i64 n6, .slice B.a k B.cap]⟩ 24 (0, 0)) :: (b5, .cells ⟨[n1, n2, n3, n4, n5, n6].map zI⟩ 70 (0, 0)) :: (H1 ++ ((b2, .cells ⟨[.int .i64 0, .int .i64 0, .int .i64 0, .int .i64 0, .int .i64 0, .int .i64 0, .slice none 0 0]⟩ 24 (0, 0)) :: O)))) (fun (k, B) => k ≤ E.length ∧ (∀ j < k, entT (E.getD j []) = some (entN (E.getD j []))) ∧ B.ok 2 (((E.take k).map entN).flatMap shV) k) (fun (k, B) => E.length - k) ((0, Buf.nil)) _ (Wk.refl _ _) (rfl) ?_ ?_ ?_
          · repeat' (first | exact True.intro | refine And.intro ?_ ?_ | rfl | exact congrArg (Value.int _) (by omega) | exact congrArg (fun n => Value.slice _ n _) (by (try dsimp only); omega))
          · exact ⟨Nat.zero_le _, fun j hj => by omega, Buf.nil_ok 2⟩
          · rintro ⟨k, B⟩ d ⟨hk, hall, hB⟩
            dsimp only at hk hall hB ⊢
            by_cases hkl : k < E.length
            · have hst : (E.take (k + 1)).map entN = (E.take k).map entN ++ [entN (E.getD k [])] := by
                rw [List.take_add_one, List.getElem?_eq_getElem hkl, List.map_append, List.getD_eq_getElem?_getD, List.getElem?_eq_getElem hkl]; rfl
              have hxl := hEat k (by omega)
              have hmem : E.getD k [] ∈ E := by
                rw [List.getD_eq_getElem?_getD, List.getElem?_eq_getElem hkl]
                exact List.getElem_mem _
              have hcl := cut_le (E.getD k []) [61]
              have e27k := e27 (E.getD k []) hxl
              have e26a := e26 (Lib.cut (E.getD k []) [61]).1 (by omega)
              have e26b := e26 (Lib.cut (E.getD k []) [61]).2.1 (by omega)
              have hent : entN (E.getD k []) = ⟨cntN (Lib.cut (E.getD k []) [61]).1, cntN (Lib.cut (E.getD k []) [61]).2.1⟩ := rfl
              rw [hent] at hst
              have his := entT_is (t := E.getD k [])
              have hisn := entT_isn (t := E.getD k [])
              generalize (Lib.cut (E.getD k []) [61]).1 = c1 at *
              generalize (Lib.cut (E.getD k []) [61]).2.1 = c2 at *
              generalize (Lib.cut (E.getD k []) [61]).2.2 = cb at *
              generalize (cntT c1).isSome = q1 at *
              generalize (cntT c2).isSome = q2 at *
              generalize cntN c1 = x1 at *
              generalize cntN c2 = x2 at *
              generalize hMk : (E.take k).map entN = Mk at *
              have hMl : Mk.length = k := by rw [← hMk, List.length_map, List.length_take]; omega
              by_cases hg : cb = true ∧ q1 = true ∧ q2 = true
              · obtain ⟨rfl, rfl, rfl⟩ := hg
                repeat' (conv => whnf
                         first
                         | (((with_reducible refine CallSt.rd (f := 27) (X := .tuple ⟨[sV c1, sV c2, .bool true]⟩) ?_ ?_); (· exact e27k _)))
                         | (((with_reducible refine CallSt.rd (f := 26) (X := .tuple ⟨[.int .i64 x1, .bool true]⟩) ?_ ?_); (· (apply GSpec.cast (sp := e26a _); (· (repeat' (first | with_reducible rfl | refine congrArg₂ List.cons ?_ ?_ | exact iN_lit _ | rfl)))))))
                         | (((with_reducible refine CallSt.rd (f := 26) (X := .tuple ⟨[.int .i64 x2, .bool true]⟩) ?_ ?_); (· (apply GSpec.cast (sp := e26b _); (· (repeat' (first | with_reducible rfl | refine congrArg₂ List.cons ?_ ?_ | exact iN_lit _ | rfl)))))))
                         | (((apply AppSt.litm (g := shV) (x := ⟨x1, x2⟩) (xs := Mk) (s := 2) (z := .agg ⟨[.int .i64 0, .int .i64 0]⟩)); (· (repeat (first | with_reducible exact Loc.hd | with_reducible exact Loc.last | with_reducible exact Loc.one | with_reducible apply Loc.tl | with_reducible apply Loc.skip))); (· exact hB); (· (repeat (first | exact List.Mem.head _ | with_reducible apply List.mem_append_right | with_reducible apply List.mem_cons_of_mem))); (· rfl); (· rfl); (· rfl); (· rfl); (· rfl); (· rfl); (· rfl); (· (show _ * 16 ≤ _; omega)); (· omega); intro B1 hB1))
                         | (with_reducible refine NextSt.mk ?_)
                         | (with_reducible refine OnBB.tt ?_)
                         | (with_reducible refine OnBB.ff ?_)
                         | ((with_reducible apply NW.addN); (· first | with_reducible rfl | exact natL _); (· first | with_reducible rfl | exact natL _); (· omega))
                         | ((with_reducible apply Cmp.yes); · first | omega | (with_reducible assumption) | (with_reducible rfl))
                         | ((with_reducible apply LoadSt.box); · (repeat (first | exact List.Mem.head _ | with_reducible apply List.mem_append_right | with_reducible apply List.mem_cons_of_mem)))
                         | ((with_reducible apply LoadSt.rdS); (· (repeat (first | with_reducible assumption | (with_reducible apply Rd.any; with_reducible assumption) | (with_reducible apply Buf.rd; with_reducible assumption) | (with_reducible apply Rd.appL; with_reducible assumption) | (with_reducible apply Rd.appL; with_reducible apply Buf.rd; with_reducible assumption) | (with_reducible apply Rd.ofH; with_reducible assumption) | (with_reducible apply Rd.ofH1; with_reducible assumption) | with_reducible apply Rd.cons | with_reducible apply Rd.appR))); · (first | omega | (simp only [List.length_map, List.length_append, List.length_cons, List.length_nil, List.length_take, List.length_drop, List.length_replicate, List.length_set] at *; omega)))
                         | ((with_reducible refine AllocSt.mk ?_); intro _b _hb _hbO)
                         | ((with_reducible apply StoreSt.box); (· (repeat (first | exact Upd.hd | apply Upd.tl | apply Upd.app))); (· rfl); (· rfl); (· rfl))
                         | ((with_reducible apply IdxSl.rd1); (· with_reducible assumption); (· rfl); (· first | with_reducible rfl | exact natL _); (· (first | omega | (simp only [List.length_map, List.length_append, List.length_cons, List.length_nil, List.length_take, List.length_drop, List.length_replicate, List.length_set] at *; omega))); · (first | omega | (simp only [List.length_map, List.length_append, List.length_cons, List.length_nil, List.length_take, List.length_drop, List.length_replicate, List.length_set] at *; omega))))
                refine RoundFix.mk (k + 1, B1) ?_ ?_ _ rfl (by dsimp only; rw [hst]; exact Wk.drop (by (try dsimp only); (try simp only [List.cons_append, List.nil_append]); (repeat (first | with_reducible exact List.Sublist.refl _ | with_reducible exact List.nil_sublist _ | with_reducible apply List.Sublist.cons_cons | with_reducible apply sub_app | apply List.Sublist.cons_cons | apply sub_app | with_reducible apply List.Sublist.cons | with_reducible apply sub_skip)))) ?_
                · dsimp only; omega
                · repeat' (first | exact True.intro | refine And.intro ?_ ?_ | rfl | exact congrArg (Value.int _) (by omega) | exact congrArg (fun n => Value.slice _ n _) (by (try dsimp only); omega))
                · refine ⟨hkl, fun j hj => ?_, by dsimp only; rw [hst]; exact hB1⟩
                  by_cases e : j = k
                  · rw [e]; exact his rfl rfl rfl
                  · exact hall j (by dsimp only at hj; omega)
              · have hno : parV s = none := hpv (by
                  rw [hpar, allT_none hmem (hisn hg)]; rfl)
                clear his hisn
                cases cb <;> cases q1 <;> cases q2
                case neg.true.true.true => exact absurd ⟨rfl, rfl, rfl⟩ hg
                all_goals clear hg
                all_goals repeat' (conv => whnf
                                   first
                                   | (((with_reducible refine CallSt.rd (f := 27) (X := .tuple ⟨[sV c1, sV c2, .bool true]⟩) ?_ ?_); (· exact e27k _)))
                                   | (((with_reducible refine CallSt.rd (f := 27) (X := .tuple ⟨[sV c1, sV c2, .bool false]⟩) ?_ ?_); (· exact e27k _)))
                                   | (((with_reducible refine CallSt.rd (f := 26) (X := .tuple ⟨[.int .i64 x1, .bool true]⟩) ?_ ?_); (· (apply GSpec.cast (sp := e26a _); (· (repeat' (first | with_reducible rfl | refine congrArg₂ List.cons ?_ ?_ | exact iN_lit _ | rfl)))))))
                                   | (((with_reducible refine CallSt.rd (f := 26) (X := .tuple ⟨[.int .i64 x1, .bool false]⟩) ?_ ?_); (· (apply GSpec.cast (sp := e26a _); (· (repeat' (first | with_reducible rfl | refine congrArg₂ List.cons ?_ ?_ | exact iN_lit _ | rfl)))))))
                                   | (((with_reducible refine CallSt.rd (f := 26) (X := .tuple ⟨[.int .i64 x2, .bool true]⟩) ?_ ?_); (· (apply GSpec.cast (sp := e26b _); (· (repeat' (first | with_reducible rfl | refine congrArg₂ List.cons ?_ ?_ | exact iN_lit _ | rfl)))))))
                                   | (((with_reducible refine CallSt.rd (f := 26) (X := .tuple ⟨[.int .i64 x2, .bool false]⟩) ?_ ?_); (· (apply GSpec.cast (sp := e26b _); (· (repeat' (first | with_reducible rfl | refine congrArg₂ List.cons ?_ ?_ | exact iN_lit _ | rfl)))))))
                                   | (with_reducible refine NextSt.mk ?_)
                                   | (with_reducible refine OnBB.tt ?_)
                                   | (with_reducible refine OnBB.ff ?_)
                                   | ((with_reducible apply Cmp.yes); · first | omega | (with_reducible assumption) | (with_reducible rfl))
                                   | ((with_reducible apply LoadSt.boxAgg); · (repeat (first | exact List.Mem.head _ | with_reducible apply List.mem_append_right | with_reducible apply List.mem_cons_of_mem)))
                                   | ((with_reducible apply LoadSt.rdS); (· (repeat (first | with_reducible assumption | (with_reducible apply Rd.any; with_reducible assumption) | (with_reducible apply Buf.rd; with_reducible assumption) | (with_reducible apply Rd.appL; with_reducible assumption) | (with_reducible apply Rd.appL; with_reducible apply Buf.rd; with_reducible assumption) | (with_reducible apply Rd.ofH; with_reducible assumption) | (with_reducible apply Rd.ofH1; with_reducible assumption) | with_reducible apply Rd.cons | with_reducible apply Rd.appR))); · (first | omega | (simp only [List.length_map, List.length_append, List.length_cons, List.length_nil, List.length_take, List.length_drop, List.length_replicate, List.length_set] at *; omega)))
                                   | ((with_reducible apply StoreSt.box); (· (repeat (first | exact Upd.hd | apply Upd.tl | apply Upd.app))); (· rfl); (· rfl); (· rfl))
                                   | ((with_reducible apply IdxSl.rd1); (· with_reducible assumption); (· rfl); (· first | with_reducible rfl | exact natL _); (· (first | omega | (simp only [List.length_map, List.length_append, List.length_cons, List.length_nil, List.length_take, List.length_drop, List.length_replicate, List.length_set] at *; omega))); · (first | omega | (simp only [List.length_map, List.length_append, List.length_cons, List.length_nil, List.length_take, List.length_drop, List.length_replicate, List.length_set] at *; omega))))
                all_goals (conv => whnf)
                all_goals refine FinSt.new (H := []) (by (try dsimp only); (try simp only [List.cons_append, List.nil_append]); (repeat (first | with_reducible exact List.Sublist.refl _ | with_reducible exact List.nil_sublist _ | with_reducible apply List.Sublist.cons_cons | with_reducible apply sub_app | apply List.Sublist.cons_cons | apply sub_app | with_reducible apply List.Sublist.cons | with_reducible apply sub_skip))) ?_
                all_goals exact par_none hno []
            · have : k = E.length := by omega
              subst this
              rw [List.take_length] at hB ⊢
              have hallE : allT entT E = some (E.map entN) := allT_all fun x hx => by
                obtain ⟨j, hj, rfl⟩ := List.mem_iff_getElem.1 hx
                have := hall j hj
                rwa [List.getD_eq_getElem?_getD, List.getElem?_eq_getElem hj] at this
              rw [hallE] at hpar
              have hMl : (E.map entN).length = E.length := List.length_map ..
              generalize E.map entN = M at *
              obtain ⟨T, hT⟩ : ∃ T : Pl, T = ⟨n1, n2, n3, n4, n5, n6, M⟩ := ⟨_, rfl⟩
              have hpb : parB s = some T := by rw [hpar, hT]; rfl
              have e19 := fun O hr => f45 T B.a B.cap (by rw [hT]; show M.length ≤ _; omega) h O hr
              have hpl : ∀ a c, plV T a c = [.int .i64 n1, .int .i64 n2, .int .i64 n3, .int .i64 n4, .int .i64 n5, .int .i64 n6, .slice a E.length c] := fun a c => by rw [hT]; unfold plV; rw [hMl]
              have hTl : T.log = M := by rw [hT]
              rw [hpl, hTl] at e19
              by_cases hok : pOk T
              · rw [show chkP T = 0 from if_pos hok] at e19
                have hpvs : parV s = some T := by unfold parV; rw [hpb]; exact if_pos hok
                have h1 : parP s = T := by unfold parP; rw [hpvs]; rfl
                have h2 : parE s = 0 := by unfold parE; rw [hpvs]; rfl
                repeat' (conv => whnf
                         first
                         | (((with_reducible refine CallSt.rd (f := 19) (X := .int .i64 0) ?_ ?_); (· exact e19 _ (by (repeat (first | with_reducible assumption | (with_reducible apply Buf.rd; with_reducible assumption) | (with_reducible apply Rd.appL; with_reducible assumption) | (with_reducible apply Rd.appL; with_reducible apply Buf.rd; with_reducible assumption) | (with_reducible apply Rd.ofH; with_reducible assumption) | (with_reducible apply Rd.ofH1; with_reducible assumption) | with_reducible apply Rd.cons | with_reducible apply Rd.appR))))))
                         | (with_reducible refine NextSt.mk ?_)
                         | (with_reducible refine OnBB.ff ?_)
                         | ((with_reducible apply Cmp.no); · first | omega | (with_reducible assumption))
                         | ((with_reducible apply LoadSt.boxAgg); · (repeat (first | exact List.Mem.head _ | with_reducible apply List.mem_append_right | with_reducible apply List.mem_cons_of_mem)))
                         | ((with_reducible apply StoreSt.box); (· (repeat (first | exact Upd.hd | apply Upd.tl | apply Upd.app))); (· rfl); (· rfl); (· rfl)))
                conv => whnf
                refine FinSt.new (H := B.hp 66 (M.flatMap shV)) (by (try dsimp only); (try simp only [List.cons_append, List.nil_append]); (repeat (first | with_reducible exact List.Sublist.refl _ | with_reducible exact List.nil_sublist _ | with_reducible apply List.Sublist.cons_cons | with_reducible apply sub_app | apply List.Sublist.cons_cons | apply sub_app | with_reducible apply List.Sublist.cons | with_reducible apply sub_skip))) ?_
                exact ⟨B.a, B.cap, by rw [h1, h2, hpl], by rw [h1, hTl]; exact Buf.rd hB⟩
              · rw [show chkP T = 30 from if_neg hok] at e19
                have hno : parV s = none := by unfold parV; rw [hpb]; exact if_neg hok
                repeat' (conv => whnf
                         first
                         | (((with_reducible refine CallSt.rd (f := 19) (X := .int .i64 30) ?_ ?_); (· exact e19 _ (by (repeat (first | with_reducible assumption | (with_reducible apply Buf.rd; with_reducible assumption) | (with_reducible apply Rd.appL; with_reducible assumption) | (with_reducible apply Rd.appL; with_reducible apply Buf.rd; with_reducible assumption) | (with_reducible apply Rd.ofH; with_reducible assumption) | (with_reducible apply Rd.ofH1; with_reducible assumption) | with_reducible apply Rd.cons | with_reducible apply Rd.appR))))))
                         | (with_reducible refine NextSt.mk ?_)
                         | (with_reducible refine OnBB.tt ?_)
                         | (with_reducible refine OnBB.ff ?_)
                         | ((with_reducible apply Cmp.yes); · first | omega | (with_reducible assumption) | (with_reducible rfl))
                         | ((with_reducible apply Cmp.no); · first | omega | (with_reducible assumption))
                         | ((with_reducible apply LoadSt.boxAgg); · (repeat (first | exact List.Mem.head _ | with_reducible apply List.mem_append_right | with_reducible apply List.mem_cons_of_mem)))
                         | ((with_reducible apply StoreSt.box); (· (repeat (first | exact Upd.hd | apply Upd.tl | apply Upd.app))); (· rfl); (· rfl); (· rfl)))
                conv => whnf
                refine FinSt.new (H := []) (by (try dsimp only); (try simp only [List.cons_append, List.nil_append]); (repeat (first | with_reducible exact List.Sublist.refl _ | with_reducible exact List.nil_sublist _ | with_reducible apply List.Sublist.cons_cons | with_reducible apply sub_app | apply List.Sublist.cons_cons | apply sub_app | with_reducible apply List.Sublist.cons | with_reducible apply sub_skip))) ?_
                exact par_none hno []
    · have hno : parV s = none := hpv (by rw [hpar, if_neg (fun e => hw e.2)])
      rw [show word = [112, 105, 108, 108, 111, 119] from rfl] at hw
      refine GSpec.enter (fn := Tryz.f7) Tryz.func7 rfl (by kernel_rfl) ?_
      repeat' (conv => whnf
               first
               | (((with_reducible refine CallSt.new (f := 25) (R := (LsR stV L)) ?_ ?_); (· exact e25 _); rintro _ H1 ⟨la, lc, rfl, hlr, hlc⟩))
               | (with_reducible refine NextSt.mk ?_)
               | (with_reducible refine OnBB.ff ?_)
               | ((with_reducible apply Cmp.no); · first | omega | (with_reducible assumption))
               | ((with_reducible refine AllocSt.mk ?_); intro _b _hb _hbO))
      rw [show stV = fun l => [sV l] from rfl, flat_one] at hlr
      repeat' (conv => whnf
               first
               | (with_reducible refine NextSt.mk ?_)
               | (with_reducible refine OnBB.tt ?_)
               | (with_reducible refine OnBB.ff ?_)
               | ((with_reducible apply Cmp.yes); · first | omega | (with_reducible assumption) | (with_reducible rfl))
               | ((with_reducible apply LoadSt.boxAgg); · (repeat (first | exact List.Mem.head _ | with_reducible apply List.mem_append_right | with_reducible apply List.mem_cons_of_mem)))
               | ((with_reducible apply LoadSt.rdS); (· (repeat (first | with_reducible assumption | (with_reducible apply Rd.any; with_reducible assumption) | (with_reducible apply Buf.rd; with_reducible assumption) | (with_reducible apply Rd.appL; with_reducible assumption) | (with_reducible apply Rd.appL; with_reducible apply Buf.rd; with_reducible assumption) | (with_reducible apply Rd.ofH; with_reducible assumption) | (with_reducible apply Rd.ofH1; with_reducible assumption) | with_reducible apply Rd.cons | with_reducible apply Rd.appR))); · (first | omega | (simp only [List.length_map, List.length_append, List.length_cons, List.length_nil, List.length_take, List.length_drop, List.length_replicate, List.length_set] at *; omega)))
               | ((with_reducible apply StoreSt.box); (· (repeat (first | exact Upd.hd | apply Upd.tl | apply Upd.app))); (· rfl); (· rfl); (· rfl))
               | ((with_reducible apply IdxSl.rd1); (· with_reducible assumption); (· rfl); (· first | with_reducible rfl | exact natL _); (· (first | omega | (simp only [List.length_map, List.length_append, List.length_cons, List.length_nil, List.length_take, List.length_drop, List.length_replicate, List.length_set] at *; omega))); · (first | omega | (simp only [List.length_map, List.length_append, List.length_cons, List.length_nil, List.length_take, List.length_drop, List.length_replicate, List.length_set] at *; omega))))
      conv => whnf
      refine FinSt.new (H := []) (by (try dsimp only); (try simp only [List.cons_append, List.nil_append]); (repeat (first | with_reducible exact List.Sublist.refl _ | with_reducible exact List.nil_sublist _ | with_reducible apply List.Sublist.cons_cons | with_reducible apply sub_app | apply List.Sublist.cons_cons | apply sub_app | with_reducible apply List.Sublist.cons | with_reducible apply sub_skip))) ?_
      exact par_none hno []
  · have hno : parV s = none := hpv (by rw [hpar, if_neg (fun e => h7 e.1)])
    refine GSpec.enter (fn := Tryz.f7) Tryz.func7 rfl (by kernel_rfl) ?_
    repeat' (conv => whnf
             first
             | (((with_reducible refine CallSt.new (f := 25) (R := (LsR stV L)) ?_ ?_); (· exact e25 _); rintro _ H1 ⟨la, lc, rfl, hlr, hlc⟩))
             | (with_reducible refine NextSt.mk ?_)
             | (with_reducible refine OnBB.tt ?_)
             | ((with_reducible apply Cmp.yes); · first | omega | (with_reducible assumption) | (with_reducible rfl))
             | ((with_reducible apply LoadSt.boxAgg); · (repeat (first | exact List.Mem.head _ | with_reducible apply List.mem_append_right | with_reducible apply List.mem_cons_of_mem)))
             | ((with_reducible refine AllocSt.mk ?_); intro _b _hb _hbO)
             | ((with_reducible apply StoreSt.box); (· (repeat (first | exact Upd.hd | apply Upd.tl | apply Upd.app))); (· rfl); (· rfl); (· rfl)))
    conv => whnf
    refine FinSt.new (H := []) (by (try dsimp only); (try simp only [List.cons_append, List.nil_append]); (repeat (first | with_reducible exact List.Sublist.refl _ | with_reducible exact List.nil_sublist _ | with_reducible apply List.Sublist.cons_cons | with_reducible apply sub_app | apply List.Sublist.cons_cons | apply sub_app | with_reducible apply List.Sublist.cons | with_reducible apply sub_skip))) ?_
    exact par_none hno []
end Go.Proofs.YtaahjlhfmkjefaaGreatDoor
