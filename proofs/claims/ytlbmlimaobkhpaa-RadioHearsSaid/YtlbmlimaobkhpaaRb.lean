/- Functions of the program: frames made and read. -/
import Derived.Test.YtlbmlimaobkhpaaRa
import Derived.Test.YtlbmlimaobkhpaaGb
set_option linter.unusedVariables false
set_option linter.unusedSimpArgs false
set_option linter.unusedSectionVars false
/- What is wrong with a word: the program's search. -/
namespace Go.Proofs.Ytlbmlimaobkhpaa
open Go Go.Gv
set_option maxRecDepth 100000
set_option maxHeartbeats 4000000
set_option linter.unusedSimpArgs false
set_option linter.unusedVariables false

theorem wf_i64 {n : Nat} (h : n < 9223372036854775808) : (Lit.int .i64 (n : Int)).wf = true := by
  simp [Lit.wf, IntKind.min, IntKind.max, IntKind.signed, IntKind.bits]; omega
def litN (n : Nat) : Lit := .int .i64 (n : Int)
theorem kl128 (vs : List Nat) (hv : vs.length = 6) (hb : ∀ x ∈ vs, x < 256) : Try.prog.keyLits 2 128 (vs.map iN) = some (vs.map litN) := by
  have hu : Try.prog.underlying 128 = some (.array 6 3) := by kernel_rfl
  have hu3 : Try.prog.underlying 3 = some (.int .i64) := by kernel_rfl
  have hc : Try.prog.cellsOf 128 = 6 := by kernel_rfl
  have hc3 : Try.prog.cellsOf 3 = 1 := by kernel_rfl
  match vs, hv with
  | [a, b, c, d, e, f], _ =>
    have ha := wf_i64 (n := a) (by have := hb a (by simp); omega)
    have hb' := wf_i64 (n := b) (by have := hb b (by simp); omega)
    have hc' := wf_i64 (n := c) (by have := hb c (by simp); omega)
    have hd := wf_i64 (n := d) (by have := hb d (by simp); omega)
    have he := wf_i64 (n := e) (by have := hb e (by simp); omega)
    have hf := wf_i64 (n := f) (by have := hb f (by simp); omega)
    simp [Program.keyLits, hu, hu3, hc, hc3, iN, ha, hb', hc', hd, he, hf, List.range, List.range.loop, litN]
theorem eq128 {vs ws : List Nat} (hv : vs.length = 6) (hw : ws.length = 6) (hb : ∀ x ∈ vs, x < 256) (hb' : ∀ x ∈ ws, x < 256) {K : Bool → Prop} (hK : K (decide (vs = ws))) : EqSt Try.prog 128 (.agg ⟨vs.map iN⟩) (.agg ⟨ws.map iN⟩) K := by
  refine EqSt.key 2 2 _ _ (by kernel_rfl) (by decide) (by kernel_rfl) ?_ ?_ (kl128 vs hv hb) (kl128 ws hw hb') (vs = ws) ?_ hK
  · have hu : Try.prog.underlying 128 = some (.array 6 3) := by kernel_rfl
    have hc : Try.prog.cellsOf 128 = 6 := by kernel_rfl
    simp [Value.formed, hu, hc, hv]
  · have hu : Try.prog.underlying 128 = some (.array 6 3) := by kernel_rfl
    have hc : Try.prog.cellsOf 128 = 6 := by kernel_rfl
    simp [Value.formed, hu, hc, hw]
  · constructor
    · intro e
      have : ∀ {u v : List Nat}, u.map litN = v.map litN → u = v := by
        intro u
        induction u with
        | nil => intro v h; cases v with
          | nil => rfl
          | cons => simp at h
        | cons a u ih => intro v h; cases v with
          | nil => simp at h
          | cons b v =>
            simp only [List.map_cons, List.cons.injEq, litN, Lit.int.injEq, true_and] at h
            rw [ih h.2, Int.ofNat.inj h.1]
      exact this e
    · rintro rfl; rfl

/-! ### the search -/
def X (n i : Nat) : Nat := pw 2 (n - 1 - i)
def oth (n : Nat) (vs : List Nat) (i k : Nat) : Nat := dvd (vs.getD 1 0 ^^^ mul (vs.getD 0 0) (X n i)) (X n i ^^^ X n k)
def byy (n : Nat) (vs : List Nat) (i k : Nat) : Nat := vs.getD 0 0 ^^^ oth n vs i k
def one (n : Nat) (vs : List Nat) (i : Nat) : Bool := vs.getD 0 0 != 0 && explV n [(i, vs.getD 0 0)] vs
def two (n : Nat) (vs : List Nat) (i k : Nat) : Bool := byy n vs i k != 0 && (oth n vs i k != 0 && explV n [(i, byy n vs i k), (k, oth n vs i k)] vs)
theorem X_lt (n i : Nat) : X n i < 256 := pw_lt _
theorem X_ne {n i k : Nat} (hn : n ≤ 255) (hi : i < n) (hk : k < i) : X n i ^^^ X n k ≠ 0 := by
  intro h
  have := pw2_inj (i := n - 1 - i) (j := n - 1 - k) (by omega) (by omega) (xor_eq_zero h)
  omega
theorem oth_lt {n : Nat} {vs : List Nat} (hb : byt vs) (i k : Nat) : oth n vs i k < 256 := mul_lt _ (xor_lt (hb.get 1) (mul_lt _ (hb.get 0)))
theorem byy_lt {n : Nat} {vs : List Nat} (hb : byt vs) (i k : Nat) : byy n vs i k < 256 := xor_lt (hb.get 0) (oth_lt hb i k)
theorem one_ok {n : Nat} {vs : List Nat} (hb : byt vs) {i : Nat} (hi : i < n) (h : one n vs i = true) : PatOk n vs [(i, vs.getD 0 0)] := by
  simp only [one, Bool.and_eq_true, bne_iff_ne, explV_iff] at h
  exact ⟨by simp, fun p hp => by rw [List.mem_singleton.1 hp]; exact ⟨hi, h.1, hb.get 0⟩, by simp, h.2⟩
theorem two_ok {n : Nat} {vs : List Nat} (hb : byt vs) {i k : Nat} (hi : i < n) (hk : k < i) (h : two n vs i k = true) : PatOk n vs [(i, byy n vs i k), (k, oth n vs i k)] := by
  simp only [two, Bool.and_eq_true, bne_iff_ne, explV_iff] at h
  refine ⟨by simp, fun p hp => ?_, by simp; omega, h.2.2⟩
  rcases List.mem_cons.1 hp with rfl | hp
  · exact ⟨hi, h.1, byy_lt hb i k⟩
  · rw [List.mem_singleton.1 hp]; exact ⟨by dsimp only; omega, h.2.1, oth_lt hb i k⟩
theorem mul_one_pw {e : Nat} (he : e < 256) (m : Nat) : mul e (pw 2 (m * 0)) = e := by rw [Nat.mul_zero]; exact mul_one he
theorem two_of {n : Nat} {vs : List Nat} (hb : byt vs) (hn : n ≤ 255) {i k e f : Nat} (hi : i < n) (hk : k < i) (h : PatOk n vs [(i, e), (k, f)]) : two n vs i k = true := by
  have he := h.mem (i, e) (by simp)
  have hf := h.mem (k, f) (by simp)
  simp only at he hf
  have s0 := h.sum 0 (by decide)
  have s1 := h.sum 1 (by decide)
  have s0' : e ^^^ f = vs.getD 0 0 := by
    rw [← s0]
    show _ = mul e (pw 2 ((n - 1 - i) * 0)) ^^^ (mul f (pw 2 ((n - 1 - k) * 0)) ^^^ 0)
    rw [mul_one_pw he.2.2, mul_one_pw hf.2.2, Nat.xor_zero]
  have s1' : mul e (X n i) ^^^ mul f (X n k) = vs.getD 1 0 := by
    rw [← s1]
    show _ = mul e (pw 2 ((n - 1 - i) * 1)) ^^^ (mul f (pw 2 ((n - 1 - k) * 1)) ^^^ 0)
    rw [Nat.mul_one, Nat.mul_one, Nat.xor_zero]; rfl
  have hof : f = oth n vs i k := by
    refine dvd_eq (xor_lt (hb.get 1) (mul_lt _ (hb.get 0))) (xor_lt (X_lt n i) (X_lt n k)) hf.2.2 (X_ne hn hi hk) ?_
    rw [← s0', ← s1', mul_adda, mul_addb]
    rw [Nat.xor_comm (mul e (X n i)) (mul f (X n k)), Nat.xor_assoc, ← Nat.xor_assoc (mul e (X n i)), Nat.xor_self, Nat.zero_xor, Nat.xor_comm]
  have hbe : e = byy n vs i k := by
    rw [byy, ← hof, ← s0', Nat.xor_assoc, Nat.xor_self, Nat.xor_zero]
  simp only [two, Bool.and_eq_true, bne_iff_ne, explV_iff]
  rw [← hof, ← hbe]
  exact ⟨he.2.1, hf.2.1, h.sum⟩
theorem PatOk.swap {n : Nat} {vs : List Nat} {p q : Nat × Nat} (h : PatOk n vs [p, q]) : PatOk n vs [q, p] := by
  refine ⟨by simp, fun x hx => h.mem x (by simp at hx ⊢; exact hx.symm), ?_, fun j hj => ?_⟩
  · have := h.asc
    simp at this ⊢
    exact fun e => this e.symm
  · rw [← h.sum j hj]
    obtain ⟨a, b⟩ := p
    obtain ⟨c, d⟩ := q
    show _ ^^^ (_ ^^^ 0) = _ ^^^ (_ ^^^ 0)
    rw [Nat.xor_zero, Nat.xor_zero, Nat.xor_comm]
theorem none_ok {n : Nat} {vs : List Nat} (hb : byt vs) (hv : vs.length = 6) (hn : n ≤ 255) (hz : vs ≠ List.replicate 6 0) (h1 : ∀ i < n, one n vs i = false) (h2 : ∀ i < n, ∀ k < i, two n vs i k = false) (l : List (Nat × Nat)) : ¬ PatOk n vs l := by
  intro h
  match l, h with
  | [], h =>
    apply hz
    apply List.ext_getElem?
    intro j
    by_cases hj : j < 6
    · have := h.sum j hj
      rw [List.getD_eq_getElem?_getD, List.getElem?_eq_getElem (by omega)] at this
      rw [List.getElem?_eq_getElem (by omega), List.getElem?_replicate, if_pos hj]
      exact congrArg some this.symm
    · rw [List.getElem?_eq_none (by omega), List.getElem?_eq_none (by simp; omega)]
  | [(i, e)], h =>
    have he := h.mem (i, e) (by simp)
    simp only at he
    have s0 : e = vs.getD 0 0 := by
      rw [← h.sum 0 (by decide)]
      show _ = mul e (pw 2 ((n - 1 - i) * 0)) ^^^ 0
      rw [mul_one_pw he.2.2, Nat.xor_zero]
    have := h1 i he.1
    have h3 : one n vs i = true := by
      simp only [one, Bool.and_eq_true, bne_iff_ne, explV_iff]
      rw [← s0]
      exact ⟨he.2.1, h.sum⟩
    rw [this] at h3; cases h3
  | [(i, e), (k, f)], h =>
    have he := h.mem (i, e) (by simp)
    have hf := h.mem (k, f) (by simp)
    have ha := h.asc
    simp at he hf ha
    rcases Nat.lt_trichotomy i k with h3 | h3 | h3
    · have := two_of hb hn hf.1 h3 h.swap
      rw [h2 k hf.1 i h3] at this; cases this
    · exact ha h3
    · have := two_of hb hn he.1 h3 h
      rw [h2 i he.1 k h3] at this; cases this
  | _ :: _ :: _ :: _, h => have := h.len; simp at this

theorem two_f {n : Nat} {vs : List Nat} {i k : Nat} (h : byy n vs i k = 0 ∨ oth n vs i k = 0 ∨ explV n [(i, byy n vs i k), (k, oth n vs i k)] vs = false) : two n vs i k = false := by
  unfold two
  rcases h with h | h | h <;> simp [h]
theorem one_f {n : Nat} {vs : List Nat} {i : Nat} (h : vs.getD 0 0 = 0 ∨ explV n [(i, vs.getD 0 0)] vs = false) : one n vs i = false := by
  unfold one
  rcases h with h | h
  · rw [h]; rfl
  · rw [h]; simp
/-- What faults answers. -/
def FaultR (n : Nat) (vs : List Nat) (h : View) (v : Value) (H : Hp) : Prop :=
  (∃ a l, v = .tuple ⟨[.slice a l.length l.length, .bool true]⟩ ∧ Rd h H a (l.flatMap fV) ∧ PatOk n vs l) ∨
  (v = .tuple ⟨[.slice none 0 0, .bool false]⟩ ∧ ∀ l, ¬ PatOk n vs l)
theorem f90 (n : Nat) (vs : List Nat) (hn : n ≤ 255) (hv : vs.length = 6) (hb : byt vs) (h : View) (O : Hp) : GSpec Try.prog 90 [iN n, .agg ⟨vs.map iN⟩] h O (New O (FaultR n vs h)) := by
  by_cases hz : vs = List.replicate 6 0
  · refine GSpec.enter (fn := Try.f90) Try.func90 rfl (by kernel_rfl) ?_
    repeat' (conv => whnf
             first
             | (refine eq128 hv (ws := List.replicate 6 0) (by simp) hb (byt.rep 6) ?_; rw [decide_eq_true hz])
             | ((with_reducible apply LoadSt.whole (l := vs.map iN)); (· (repeat (exact List.Mem.head _))); (· (show (vs.map iN).length = 6; rw [List.length_map, hv])))
             | (with_reducible refine NextSt.mk ?_)
             | (with_reducible refine OnBB.tt ?_)
             | ((with_reducible refine AllocSt.mk ?_); intro _b _hb _hbO))
    refine FinSt.new (H := []) (R := FaultR n vs h) (by (try dsimp only); (try simp only [List.cons_append, List.nil_append]); (repeat (first | with_reducible exact List.Sublist.refl _ | with_reducible apply List.Sublist.cons))) (Or.inl ⟨none, [], rfl, Rd.nil, by simp, by simp, by simp, fun j hj => ?_⟩)
    rw [hz]
    match j, hj with
    | 0, _ => rfl
    | 1, _ => rfl
    | 2, _ => rfl
    | 3, _ => rfl
    | 4, _ => rfl
    | 5, _ => rfl
  · have h0 := hb.get 0
    refine GSpec.enter (fn := Try.f90) Try.func90 rfl (by kernel_rfl) ?_
    repeat' (conv => whnf
             first
             | (refine eq128 hv (ws := List.replicate 6 0) (by simp) hb (byt.rep 6) ?_; rw [decide_eq_false hz])
             | ((with_reducible apply LoadSt.whole (l := vs.map iN)); (· (repeat (exact List.Mem.head _))); (· (show (vs.map iN).length = 6; rw [List.length_map, hv])))
             | (apply CallSt.new (f146 _ _); rintro _ G ⟨fb, fx, hx, rfl, hG⟩; have hfl := hx.len)
             | (with_reducible refine NextSt.mk ?_)
             | (with_reducible refine OnBB.ff ?_)
             | ((with_reducible refine AllocSt.mk ?_); intro _b _hb _hbO))
    refine LoopSt.fix [4, 5, 7, 8, 21, 22, 23, 24, 25, 26, 27, 28, 29, 30, 31, 32, 33, 34, 35, 36, 37, 38, 39, 40] (fun (i : Nat) => [(21, iN i)]) (fun _ => _) (fun i => i ≤ n ∧ ∀ i' < i, one n vs i' = false) (fun i => n - i) (0) _ (Wk.refl _ _) (rfl) ?_ ?_ ?_
    · repeat' (first | exact True.intro | refine And.intro ?_ ?_ | rfl)
    · exact ⟨Nat.zero_le _, fun i hi => by omega⟩
    · rintro i d ⟨hi, h1⟩
      by_cases hin : i < n
      · cases he : explV n [(i, vs.getD 0 0)] vs
        · repeat' (conv => whnf
                   first
                   | ((with_reducible apply LoadSt.whole (l := vs.map iN)); (· (repeat (first | exact List.Mem.head _ | with_reducible apply List.mem_append_right | with_reducible apply List.mem_cons_of_mem))); (· (show (vs.map iN).length = 6; rw [List.length_map, hv])))
                   | ((refine CallSt.rd (f147 fx hx fb n 1 (some ⟨_, 0, none⟩) [(i, vs.getD 0 0)] vs (by omega) hv (by simp) (fun p hp => by rw [List.mem_singleton.1 hp]; exact ⟨hin, h0⟩) _ _ (by (repeat (first | with_reducible assumption | (with_reducible apply Rd.appL; with_reducible assumption) | with_reducible apply Rd.cons))) (Rd.own0 (List.Mem.head _))) ?_); rw [he])
                   | (with_reducible refine NextSt.mk ?_)
                   | (with_reducible refine OnBB.tt ?_)
                   | (with_reducible refine OnBB.ff ?_)
                   | ((with_reducible apply NW.addN); (· with_reducible rfl); (· exact natL _); (· omega))
                   | ((with_reducible apply Cmp.yes); · omega)
                   | ((with_reducible apply LoadSt.ownN); (· (repeat (first | exact List.Mem.head _ | with_reducible apply List.mem_append_right | with_reducible apply List.mem_cons_of_mem))); (· (exact Nat.zero_add _)); · (omega))
                   | ((with_reducible refine AllocSt.mk ?_); intro _b _hb _hbO)
                   | ((with_reducible apply IdxArrP.n1); (· rfl); (· exact natL _); · omega)
                   | ((with_reducible refine Cmp.mk ?_ ?_) <;> intro _hc))
          all_goals have h4 : one n vs i = false := one_f (.inr he)
          · refine RoundFix.mk (i + 1) ?_ ?_ _ rfl (Wk.drop (by (try dsimp only); (try simp only [List.cons_append, List.nil_append]); (repeat (first | with_reducible exact List.Sublist.refl _ | with_reducible apply List.Sublist.cons)))) ?_
            · omega
            · repeat' (first | exact True.intro | refine And.intro ?_ ?_ | rfl)
            · refine ⟨by omega, fun i' hi' => ?_⟩
              by_cases e : i' = i
              · rw [e]; exact h4
              · exact h1 i' (by omega)
          · refine RoundFix.mk (i + 1) ?_ ?_ _ rfl (Wk.drop (by (try dsimp only); (try simp only [List.cons_append, List.nil_append]); (repeat (first | with_reducible exact List.Sublist.refl _ | with_reducible apply List.Sublist.cons)))) ?_
            · omega
            · repeat' (first | exact True.intro | refine And.intro ?_ ?_ | rfl)
            · refine ⟨by omega, fun i' hi' => ?_⟩
              by_cases e : i' = i
              · rw [e]; exact h4
              · exact h1 i' (by omega)
        · repeat' (conv => whnf
                   first
                   | ((with_reducible apply LoadSt.whole (l := vs.map iN)); (· (repeat (first | exact List.Mem.head _ | with_reducible apply List.mem_append_right | with_reducible apply List.mem_cons_of_mem))); (· (show (vs.map iN).length = 6; rw [List.length_map, hv])))
                   | ((refine CallSt.rd (f147 fx hx fb n 1 (some ⟨_, 0, none⟩) [(i, vs.getD 0 0)] vs (by omega) hv (by simp) (fun p hp => by rw [List.mem_singleton.1 hp]; exact ⟨hin, h0⟩) _ _ (by (repeat (first | with_reducible assumption | (with_reducible apply Rd.appL; with_reducible assumption) | with_reducible apply Rd.cons))) (Rd.own0 (List.Mem.head _))) ?_); rw [he])
                   | (with_reducible refine NextSt.mk ?_)
                   | (with_reducible refine OnBB.tt ?_)
                   | (with_reducible refine OnBB.ff ?_)
                   | ((with_reducible apply NW.addN); (· with_reducible rfl); (· exact natL _); (· omega))
                   | ((with_reducible apply Cmp.yes); · omega)
                   | ((with_reducible apply LoadSt.ownN); (· (repeat (first | exact List.Mem.head _ | with_reducible apply List.mem_append_right | with_reducible apply List.mem_cons_of_mem))); (· (exact Nat.zero_add _)); · (omega))
                   | ((with_reducible refine AllocSt.mk ?_); intro _b _hb _hbO)
                   | ((with_reducible apply IdxArrP.n1); (· rfl); (· exact natL _); · omega)
                   | ((with_reducible refine Cmp.mk ?_ ?_) <;> intro _hc))
          · refine FinSt.new (H := [(_b, .cells ⟨[iN i, iN (vs.getD 0 0)]⟩ 131 (0, 0))]) (R := FaultR n vs h) (by (try dsimp only); (try simp only [List.cons_append, List.nil_append]); (repeat (first | with_reducible exact List.Sublist.refl _ | with_reducible apply List.Sublist.cons_cons | with_reducible apply List.Sublist.cons | with_reducible apply sub_skip))) (Or.inl ⟨some ⟨_b, 0, none⟩, [(i, vs.getD 0 0)], rfl, Rd.own0 (List.Mem.head _), one_ok hb hin ?_⟩)
            simp only [one, he, Bool.and_true, bne_iff_ne]; omega
          · have h4 : one n vs i = false := one_f (.inl (by omega))
            refine RoundFix.mk (i + 1) ?_ ?_ _ rfl (Wk.drop (by (try dsimp only); (try simp only [List.cons_append, List.nil_append]); (repeat (first | with_reducible exact List.Sublist.refl _ | with_reducible apply List.Sublist.cons)))) ?_
            · omega
            · repeat' (first | exact True.intro | refine And.intro ?_ ?_ | rfl)
            · refine ⟨by omega, fun i' hi' => ?_⟩
              by_cases e : i' = i
              · rw [e]; exact h4
              · exact h1 i' (by omega)
      · repeat' (conv => whnf
                 first
                 | (with_reducible refine NextSt.mk ?_)
                 | (with_reducible refine OnBB.ff ?_)
                 | ((with_reducible apply Cmp.no); · omega))
        refine LoopSt.fix [4, 5, 9, 10, 11, 12, 13, 14, 15, 42, 43, 44, 45, 46, 47, 48, 49, 50, 51, 52, 53, 54, 55, 56, 57, 58, 59, 60, 61, 62, 63, 64, 65, 66, 67, 68, 69, 70, 71, 72, 73, 74, 75, 76, 77, 78, 79, 80, 81, 82, 83, 84, 85, 86, 87, 88, 89, 90, 91, 92, 93, 94, 95, 96, 97, 98, 99, 100, 101, 102, 103, 104, 105] (fun (i : Nat) => [(42, iN i)]) (fun _ => _) (fun i => i ≤ n ∧ ∀ i' < i, ∀ k < i', two n vs i' k = false) (fun i => n - i) (0) _ (Wk.refl _ _) (rfl) ?_ ?_ ?_
        · repeat' (first | exact True.intro | refine And.intro ?_ ?_ | rfl)
        · exact ⟨Nat.zero_le _, fun i hi => by omega⟩
        · rintro i2 d ⟨hi2, h2⟩
          repeat' (conv => whnf
                   first
                   | (with_reducible refine NextSt.mk ?_)
                   | (with_reducible refine OnBB.tt ?_)
                   | (with_reducible refine OnBB.ff ?_)
                   | ((with_reducible refine Cmp.mk ?_ ?_) <;> intro _hc))
          · refine LoopSt.fix [4, 5, 10, 11, 12, 13, 14, 15, 46, 47, 48, 49, 50, 51, 52, 53, 54, 55, 56, 57, 58, 59, 60, 61, 62, 63, 64, 65, 66, 67, 68, 69, 70, 71, 72, 73, 74, 75, 76, 77, 78, 79, 80, 81, 82, 83, 84, 85, 86, 87, 88, 89, 90, 91, 92, 93, 94, 95, 96, 97, 98, 99, 100, 101, 102, 103, 104] (fun (k : Nat) => [(46, iN k)]) (fun _ => _) (fun k => k ≤ i2 ∧ ∀ k' < k, two n vs i2 k' = false) (fun k => i2 - k) (0) _ (Wk.refl _ _) (rfl) ?_ ?_ ?_
            · repeat' (first | exact True.intro | refine And.intro ?_ ?_ | rfl)
            · exact ⟨Nat.zero_le _, fun i hi => by omega⟩
            · rintro k d ⟨hk, h3⟩
              by_cases hki : k < i2
              · have hXi : fx.getD (n - 1 - i2) 0 = X n i2 := hx.exp (by omega)
                have hXk : fx.getD (n - 1 - k) 0 = X n k := hx.exp (by omega)
                have hne := X_ne (n := n) (i := i2) hn (by omega) hki
                have b1 := X_lt n i2
                have b2 := X_lt n k
                have b3 := hb.get 1
                have b4 := oth_lt (n := n) hb i2 k
                have b5 : vs.getD 0 0 ^^^ oth n vs i2 k < 256 := byy_lt (n := n) hb i2 k
                have hmem : ∀ p ∈ [(i2, byy n vs i2 k), (k, oth n vs i2 k)], p.1 < n ∧ p.2 < 256 := fun p hp => by
                  rcases List.mem_cons.1 hp with rfl | hp
                  · exact ⟨by dsimp only; omega, b5⟩
                  · rw [List.mem_singleton.1 hp]; exact ⟨by dsimp only; omega, b4⟩
                cases he : explV n [(i2, byy n vs i2 k), (k, oth n vs i2 k)] vs
                · repeat' (conv => whnf
                           first
                           | ((with_reducible apply LoadSt.whole (l := vs.map iN)); (· (repeat (first | exact List.Mem.head _ | with_reducible apply List.mem_append_right | with_reducible apply List.mem_cons_of_mem))); (· (show (vs.map iN).length = 6; rw [List.length_map, hv])))
                           | (((with_reducible apply LoadSt.rdpN (xs := fx)); (· (repeat (first | (with_reducible apply Rd.appL; with_reducible assumption) | with_reducible apply Rd.cons | with_reducible apply Rd.appR))); (· ((simp only [Nat.zero_add, Nat.add_zero]; rfl))); (· (omega)); first | rw [hXi] | rw [hXk]))
                           | ((refine CallG.rd (f148 fx hx fb (vs.getD 1 0 ^^^ mul (vs.getD 0 0) (X n i2)) (X n i2 ^^^ X n k) (by (repeat (first | with_reducible assumption | with_reducible apply xor_lt | with_reducible apply mul_lt))) (by (repeat (first | with_reducible assumption | with_reducible apply xor_lt))) hne _ _ (by (repeat (first | with_reducible assumption | (with_reducible apply Rd.appL; with_reducible assumption))))) ?_); rw [show dvd (vs.getD 1 0 ^^^ mul (vs.getD 0 0) (X n i2)) (X n i2 ^^^ X n k) = oth n vs i2 k from rfl])
                           | ((refine CallSt.rd (f147 fx hx fb n 2 (some ⟨_, 0, none⟩) [(i2, byy n vs i2 k), (k, oth n vs i2 k)] vs (by omega) hv (by simp) hmem _ _ (by (repeat (first | with_reducible assumption | (with_reducible apply Rd.appL; with_reducible assumption) | with_reducible apply Rd.cons))) (Rd.own0 (List.Mem.head _))) ?_); rw [he])
                           | ((with_reducible refine DrawSt.walk [0, 1, 2, 3, 4, 5, 6, 7, 8, 9, 10, 11, 12, 13, 14, 15, 16, 17, 18, 19] mixed ?_ ?_); · decide +kernel)
                           | ((with_reducible refine DrawSt.walk [0, 1, 2, 3, 4, 5, 8, 9, 10, 6, 7, 11, 12] mixed ?_ ?_); · decide +kernel)
                           | ((with_reducible apply CallG.rd (f := 95)); · (apply GSpec.cast (sp := f95 _ _ ?_ ?_ _ _); (· (repeat' (with_reducible rfl))); all_goals (with_reducible assumption)))
                           | (with_reducible refine NextSt.mk ?_)
                           | (with_reducible refine OnBB.tt ?_)
                           | (with_reducible refine OnBB.ff ?_)
                           | ((with_reducible apply NW.addN); (· with_reducible rfl); (· exact natL _); (· omega))
                           | ((with_reducible apply NW.subN); (· with_reducible rfl); (· first | with_reducible rfl | exact natL _); (· omega))
                           | ((with_reducible apply Cmp.yes); · omega)
                           | ((with_reducible apply LoadSt.ownN); (· (repeat (first | exact List.Mem.head _ | with_reducible apply List.mem_append_right))); (· (exact Nat.zero_add _)); · (omega))
                           | ((with_reducible refine AllocSt.mk ?_); intro _b _hb _hbO)
                           | ((with_reducible apply Bits.xorN); (· with_reducible rfl); (· with_reducible rfl); (· (first | omega | (refine ⟨?_, ?_⟩ <;> (first | omega | exact Nat.le_trans (Nat.le_of_lt (show _ < 256 by exact mul_lt _ (by assumption))) (by decide))))))
                           | ((with_reducible apply IdxArrP.n1); (· rfl); (· first | with_reducible rfl | exact natL _); · omega)
                           | ((with_reducible refine Cmp.mk ?_ ?_) <;> intro _hc))
                  all_goals have h4 : two n vs i2 k = false := two_f (.inr (.inr he))
                  · refine RoundFix.mk (k + 1) ?_ ?_ _ rfl (Wk.drop (by (try dsimp only); (try simp only [List.cons_append, List.nil_append]); (repeat (first | with_reducible exact List.Sublist.refl _ | with_reducible apply List.Sublist.cons)))) ?_
                    · omega
                    · repeat' (first | exact True.intro | refine And.intro ?_ ?_ | rfl)
                    · refine ⟨by omega, fun k' hk' => ?_⟩
                      by_cases e : k' = k
                      · rw [e]; exact h4
                      · exact h3 k' (by omega)
                  · refine RoundFix.mk (k + 1) ?_ ?_ _ rfl (Wk.drop (by (try dsimp only); (try simp only [List.cons_append, List.nil_append]); (repeat (first | with_reducible exact List.Sublist.refl _ | with_reducible apply List.Sublist.cons)))) ?_
                    · omega
                    · repeat' (first | exact True.intro | refine And.intro ?_ ?_ | rfl)
                    · refine ⟨by omega, fun k' hk' => ?_⟩
                      by_cases e : k' = k
                      · rw [e]; exact h4
                      · exact h3 k' (by omega)
                  · refine RoundFix.mk (k + 1) ?_ ?_ _ rfl (Wk.drop (by (try dsimp only); (try simp only [List.cons_append, List.nil_append]); (repeat (first | with_reducible exact List.Sublist.refl _ | with_reducible apply List.Sublist.cons)))) ?_
                    · omega
                    · repeat' (first | exact True.intro | refine And.intro ?_ ?_ | rfl)
                    · refine ⟨by omega, fun k' hk' => ?_⟩
                      by_cases e : k' = k
                      · rw [e]; exact h4
                      · exact h3 k' (by omega)
                · repeat' (conv => whnf
                           first
                           | ((with_reducible apply LoadSt.whole (l := vs.map iN)); (· (repeat (first | exact List.Mem.head _ | with_reducible apply List.mem_append_right | with_reducible apply List.mem_cons_of_mem))); (· (show (vs.map iN).length = 6; rw [List.length_map, hv])))
                           | (((with_reducible apply LoadSt.rdpN (xs := fx)); (· (repeat (first | (with_reducible apply Rd.appL; with_reducible assumption) | with_reducible apply Rd.cons | with_reducible apply Rd.appR))); (· ((simp only [Nat.zero_add, Nat.add_zero]; rfl))); (· (omega)); first | rw [hXi] | rw [hXk]))
                           | ((refine CallG.rd (f148 fx hx fb (vs.getD 1 0 ^^^ mul (vs.getD 0 0) (X n i2)) (X n i2 ^^^ X n k) (by (repeat (first | with_reducible assumption | with_reducible apply xor_lt | with_reducible apply mul_lt))) (by (repeat (first | with_reducible assumption | with_reducible apply xor_lt))) hne _ _ (by (repeat (first | with_reducible assumption | (with_reducible apply Rd.appL; with_reducible assumption))))) ?_); rw [show dvd (vs.getD 1 0 ^^^ mul (vs.getD 0 0) (X n i2)) (X n i2 ^^^ X n k) = oth n vs i2 k from rfl])
                           | ((refine CallSt.rd (f147 fx hx fb n 2 (some ⟨_, 0, none⟩) [(i2, byy n vs i2 k), (k, oth n vs i2 k)] vs (by omega) hv (by simp) hmem _ _ (by (repeat (first | with_reducible assumption | (with_reducible apply Rd.appL; with_reducible assumption) | with_reducible apply Rd.cons))) (Rd.own0 (List.Mem.head _))) ?_); rw [he])
                           | ((with_reducible refine DrawSt.walk [0, 1, 2, 3, 4, 5, 6, 7, 8, 9, 10, 11, 12, 13, 14, 15, 16, 17, 18, 19] mixed ?_ ?_); · decide +kernel)
                           | ((with_reducible refine DrawSt.walk [0, 1, 2, 3, 4, 5, 8, 9, 10, 6, 7, 11, 12] mixed ?_ ?_); · decide +kernel)
                           | ((with_reducible apply CallG.rd (f := 95)); · (apply GSpec.cast (sp := f95 _ _ ?_ ?_ _ _); (· (repeat' (with_reducible rfl))); all_goals (with_reducible assumption)))
                           | (with_reducible refine NextSt.mk ?_)
                           | (with_reducible refine OnBB.tt ?_)
                           | (with_reducible refine OnBB.ff ?_)
                           | ((with_reducible apply NW.addN); (· with_reducible rfl); (· exact natL _); (· omega))
                           | ((with_reducible apply NW.subN); (· with_reducible rfl); (· first | with_reducible rfl | exact natL _); (· omega))
                           | ((with_reducible apply Cmp.yes); · omega)
                           | ((with_reducible apply LoadSt.ownN); (· (repeat (first | exact List.Mem.head _ | with_reducible apply List.mem_append_right))); (· (exact Nat.zero_add _)); · (omega))
                           | ((with_reducible refine AllocSt.mk ?_); intro _b _hb _hbO)
                           | ((with_reducible apply Bits.xorN); (· with_reducible rfl); (· with_reducible rfl); (· (first | omega | (refine ⟨?_, ?_⟩ <;> (first | omega | exact Nat.le_trans (Nat.le_of_lt (show _ < 256 by exact mul_lt _ (by assumption))) (by decide))))))
                           | ((with_reducible apply IdxArrP.n1); (· rfl); (· first | with_reducible rfl | exact natL _); · omega)
                           | ((with_reducible refine Cmp.mk ?_ ?_) <;> intro _hc))
                  · refine FinSt.new (H := [(_b, .cells ⟨[iN i2, iN (byy n vs i2 k), iN k, iN (oth n vs i2 k)]⟩ 131 (0, 0))]) (R := FaultR n vs h) (by (try dsimp only); (try simp only [List.cons_append, List.nil_append]); (repeat (first | with_reducible exact List.Sublist.refl _ | apply List.Sublist.cons_cons | with_reducible apply List.Sublist.cons | with_reducible apply sub_skip))) (Or.inl ⟨some ⟨_b, 0, none⟩, [(i2, byy n vs i2 k), (k, oth n vs i2 k)], rfl, Rd.own0 (List.Mem.head _), two_ok hb (by omega) hki ?_⟩)
                    unfold two
                    rw [he]
                    simp only [Bool.and_true, Bool.and_eq_true, bne_iff_ne]
                    exact ⟨by unfold byy; omega, by omega⟩
                  · have h4 : two n vs i2 k = false := two_f (.inr (.inl (by omega)))
                    refine RoundFix.mk (k + 1) ?_ ?_ _ rfl (Wk.drop (by (try dsimp only); (try simp only [List.cons_append, List.nil_append]); (repeat (first | with_reducible exact List.Sublist.refl _ | with_reducible apply List.Sublist.cons)))) ?_
                    · omega
                    · repeat' (first | exact True.intro | refine And.intro ?_ ?_ | rfl)
                    · refine ⟨by omega, fun k' hk' => ?_⟩
                      by_cases e : k' = k
                      · rw [e]; exact h4
                      · exact h3 k' (by omega)
                  · have h4 : two n vs i2 k = false := two_f (.inl (by unfold byy; omega))
                    refine RoundFix.mk (k + 1) ?_ ?_ _ rfl (Wk.drop (by (try dsimp only); (try simp only [List.cons_append, List.nil_append]); (repeat (first | with_reducible exact List.Sublist.refl _ | with_reducible apply List.Sublist.cons)))) ?_
                    · omega
                    · repeat' (first | exact True.intro | refine And.intro ?_ ?_ | rfl)
                    · refine ⟨by omega, fun k' hk' => ?_⟩
                      by_cases e : k' = k
                      · rw [e]; exact h4
                      · exact h3 k' (by omega)
              · repeat' (conv => whnf
                         first
                         | (with_reducible refine NextSt.mk ?_)
                         | (with_reducible refine OnBB.ff ?_)
                         | ((with_reducible apply NW.addN); (· with_reducible rfl); (· exact natL _); (· omega))
                         | ((with_reducible apply Cmp.no); · omega))
                refine RoundFix.mk (i2 + 1) ?_ ?_ _ rfl (Wk.drop (by (try dsimp only); (try simp only [List.cons_append, List.nil_append]); (repeat (with_reducible exact List.Sublist.refl _)))) ?_
                · omega
                · repeat' (first | exact True.intro | refine And.intro ?_ ?_ | rfl)
                · refine ⟨by omega, fun i' hi' => ?_⟩
                  by_cases e : i' = i2
                  · rw [e]; exact fun k' hk' => h3 k' (by omega)
                  · exact h2 i' (by omega)
          · refine FinSt.new (H := []) (R := FaultR n vs h) (by (try dsimp only); (try simp only [List.cons_append, List.nil_append]); (repeat (first | with_reducible exact List.Sublist.refl _ | with_reducible apply List.Sublist.cons | with_reducible apply sub_skip))) (Or.inr ⟨rfl, none_ok hb hv hn hz (fun i hi => h1 i (by omega)) fun i hi => h2 i (by omega)⟩)
end Go.Proofs.Ytlbmlimaobkhpaa
/- Frames: which are valid, how they are sent. -/
namespace Go.Proofs.Ytlbmlimaobkhpaa
open Go Go.Gv
set_option maxRecDepth 100000
set_option maxHeartbeats 4000000
set_option linter.unusedSimpArgs false
set_option linter.unusedVariables false

structure Fr where
  office : Int
  no : Int
  part : Int
  parts : Int
  body : List UInt8
def frV (f : Fr) : List Value := [.int .i64 f.office, .int .i64 f.no, .int .i64 f.part, .int .i64 f.parts, sV f.body]
def frOk (f : Fr) : Prop := 0 ≤ f.office ∧ f.office < 8 ∧ 0 ≤ f.no ∧ f.no < 64 ∧ 1 ≤ f.parts ∧ f.parts ≤ 32 ∧ 0 ≤ f.part ∧ f.part < f.parts ∧ f.body.length ≤ 32 ∧ (f.part = f.parts - 1 ∨ f.body.length = 32) ∧ (f.parts = 1 ∨ 0 < f.body.length)
instance (f : Fr) : Decidable (frOk f) := by unfold frOk; infer_instance
def chkF (f : Fr) : Int := if frOk f then 0 else 90

theorem f94 (n lo hi : Int) (h : View) (O : Hp) : GSpec Try.prog 94 [.int .i64 n, .int .i64 lo, .int .i64 hi] h O (Ret O (.bool (decide (lo ≤ n ∧ n ≤ hi)))) := by
  by_cases hc : lo ≤ n ∧ n ≤ hi
  · rw [decide_eq_true hc]
    refine GSpec.enter (fn := Try.f94) Try.func94 rfl (by kernel_rfl) ?_
    repeat' (conv => whnf
             first
             | (with_reducible refine NextSt.mk ?_)
             | (with_reducible refine OnBB.tt ?_)
             | ((with_reducible apply Cmp.yes); · omega))
    all_goals exact FinSt.ret (List.Sublist.refl _) rfl
  · rw [decide_eq_false hc]
    refine GSpec.enter (fn := Try.f94) Try.func94 rfl (by kernel_rfl) ?_
    repeat' (conv => whnf
             first
             | (with_reducible refine NextSt.mk ?_)
             | (with_reducible refine OnBB.tt ?_)
             | (with_reducible refine OnBB.ff ?_)
             | ((with_reducible apply Cmp.no); · omega)
             | ((with_reducible refine Cmp.mk ?_ ?_) <;> intro _hc))
    all_goals exact FinSt.ret (List.Sublist.refl _) rfl

theorem f22L (f : Fr) (hl : f.body.length ≤ 9223372036854775807) (h : View) (O : Hp) : GSpec Try.prog 22 [.agg ⟨frV f⟩] h O (Ret O (.int .i64 (chkF f))) := by
  by_cases hok : frOk f
  · rw [show chkF f = 0 from if_pos hok]
    obtain ⟨a1, a2, a3, a4, a5, a6, a7, a8, a9, a10, a11⟩ := hok
    refine GSpec.enter (fn := Try.f22) Try.func22 rfl (by kernel_rfl) ?_
    repeat' (conv => whnf
             first
             | ((with_reducible apply CallSt.decY (f := 93)); (· (apply GSpec.cast (sp := f93 _ _ _ _); (· (repeat' (with_reducible rfl))); all_goals (fail))); · omega)
             | (with_reducible refine NextSt.mk ?_)
             | (with_reducible refine OnBB.tt ?_)
             | (with_reducible refine OnBB.ff ?_)
             | ((with_reducible apply NW.i64); · omega)
             | ((with_reducible apply Cmp.no); · omega)
             | ((with_reducible apply LoadSt.box); · (repeat (exact List.Mem.head _)))
             | ((with_reducible refine AllocSt.mk ?_); intro _b _hb _hbO)
             | ((with_reducible refine Cmp.mk ?_ ?_) <;> intro _hc))
    all_goals (conv => whnf)
    all_goals refine FinSt.ret (by (try dsimp only); (try simp only [List.cons_append, List.nil_append]); (repeat (first | with_reducible exact List.Sublist.refl _ | with_reducible apply List.Sublist.cons))) ?_
    all_goals with_reducible rfl
  · rw [show chkF f = 90 from if_neg hok]
    refine GSpec.enter (fn := Try.f22) Try.func22 rfl (by kernel_rfl) ?_
    repeat' (conv => whnf
             first
             | ((with_reducible apply CallSt.dec (f := 93)); (· (apply GSpec.cast (sp := f93 _ _ _ _); (· (repeat' (with_reducible rfl))); all_goals (fail))); all_goals intro _hc)
             | (with_reducible refine NextSt.mk ?_)
             | (with_reducible refine OnBB.tt ?_)
             | (with_reducible refine OnBB.ff ?_)
             | ((with_reducible apply NW.i64); · omega)
             | ((with_reducible apply Cmp.no); · omega)
             | ((with_reducible apply LoadSt.box); · (repeat (exact List.Mem.head _)))
             | ((with_reducible refine AllocSt.mk ?_); intro _b _hb _hbO)
             | ((with_reducible refine Cmp.mk ?_ ?_) <;> intro _hc))
    all_goals (conv => whnf)
    all_goals refine FinSt.ret (by (try dsimp only); (try simp only [List.cons_append, List.nil_append]); (repeat (first | with_reducible exact List.Sublist.refl _ | with_reducible apply List.Sublist.cons))) ?_
    all_goals first | with_reducible rfl | exact absurd ⟨by omega, by omega, by omega, by omega, by omega, by omega, by omega, by omega, by omega, by omega, by omega⟩ hok
theorem f22 (f : Fr) (hl : f.body.length < 1000000) (h : View) (O : Hp) : GSpec Try.prog 22 [.agg ⟨frV f⟩] h O (Ret O (.int .i64 (chkF f))) := f22L f (by omega) h O
theorem f23 (f : Fr) (hl : f.body.length < 1000000) (h : View) (O : Hp) : GSpec Try.prog 23 [.agg ⟨frV f⟩] h O (Ret O (.int .i64 (chkF f))) := by
  by_cases hok : frOk f
  · rw [show chkF f = 0 from if_pos hok]
    obtain ⟨a1, a2, a3, a4, a5, a6, a7, a8, a9, a10, a11⟩ := hok
    refine GSpec.enter (fn := Try.f23) Try.func23 rfl (by kernel_rfl) ?_
    repeat' (conv => whnf
             first
             | ((with_reducible apply CallSt.decY (f := 94)); (· (apply GSpec.cast (sp := f94 _ _ _ _ _); (· (repeat' (with_reducible rfl))); all_goals (fail))); · omega)
             | (with_reducible refine NextSt.mk ?_)
             | (with_reducible refine OnBB.tt ?_)
             | (with_reducible refine OnBB.ff ?_)
             | ((with_reducible apply NW.i64); · omega)
             | ((with_reducible apply Cmp.no); · omega)
             | ((with_reducible apply LoadSt.box); · (repeat (exact List.Mem.head _)))
             | ((with_reducible refine AllocSt.mk ?_); intro _b _hb _hbO)
             | ((with_reducible refine Cmp.mk ?_ ?_) <;> intro _hc))
    all_goals (conv => whnf)
    all_goals refine FinSt.ret (by (try dsimp only); (try simp only [List.cons_append, List.nil_append]); (repeat (first | with_reducible exact List.Sublist.refl _ | with_reducible apply List.Sublist.cons))) ?_
    all_goals with_reducible rfl
  · rw [show chkF f = 90 from if_neg hok]
    refine GSpec.enter (fn := Try.f23) Try.func23 rfl (by kernel_rfl) ?_
    repeat' (conv => whnf
             first
             | ((with_reducible apply CallSt.dec (f := 94)); (· (apply GSpec.cast (sp := f94 _ _ _ _ _); (· (repeat' (with_reducible rfl))); all_goals (fail))); all_goals intro _hc)
             | (with_reducible refine NextSt.mk ?_)
             | (with_reducible refine OnBB.tt ?_)
             | (with_reducible refine OnBB.ff ?_)
             | ((with_reducible apply NW.i64); · omega)
             | ((with_reducible apply Cmp.no); · omega)
             | ((with_reducible apply LoadSt.box); · (repeat (exact List.Mem.head _)))
             | ((with_reducible refine AllocSt.mk ?_); intro _b _hb _hbO)
             | ((with_reducible refine Cmp.mk ?_ ?_) <;> intro _hc))
    all_goals (conv => whnf)
    all_goals refine FinSt.ret (by (try dsimp only); (try simp only [List.cons_append, List.nil_append]); (repeat (first | with_reducible exact List.Sublist.refl _ | with_reducible apply List.Sublist.cons))) ?_
    all_goals first | with_reducible rfl | exact absurd ⟨by omega, by omega, by omega, by omega, by omega, by omega, by omega, by omega, by omega, by omega, by omega⟩ hok

end Go.Proofs.Ytlbmlimaobkhpaa
/- Frames: how they are sent. -/
namespace Go.Proofs.Ytlbmlimaobkhpaa
open Go Go.Gv
set_option maxRecDepth 100000
set_option maxHeartbeats 4000000
set_option linter.unusedSimpArgs false
set_option linter.unusedVariables false

/-! ### what is sent -/
def hd4 (f : Fr) : List Nat := [f.office.toNat, f.no.toNat, f.part.toNat, f.parts.toNat]
def wordB (f : Fr) : List UInt8 := (hd4 f).map UInt8.ofNat ++ f.body
def sent (f : Fr) : List UInt8 := wordB f ++ ckB (wordB f)
def encV (f : Fr) : List UInt8 × Int := if frOk f then (sent f, 0) else ([], 90)
theorem hd4_byt {f : Fr} (h : frOk f) : ∀ x ∈ hd4 f, x < 256 := by
  obtain ⟨a1, a2, a3, a4, a5, a6, a7, a8, a9, a10, a11⟩ := h
  intro x hx
  simp [hd4] at hx
  omega
theorem wordB_len (f : Fr) : (wordB f).length = 4 + f.body.length := by simp [wordB, hd4]; omega
theorem chk_ok {f : Fr} (h : frOk f) : chkF f = 0 := if_pos h
theorem chk_no {f : Fr} (h : ¬ frOk f) : chkF f = 90 := if_neg h

theorem f18L (f : Fr) (hl : f.body.length ≤ 9223372036854775807) (h : View) (O : Hp) : GSpec Try.prog 18 [.agg ⟨frV f⟩] h O (Ret O (strE (encV f))) := by
  by_cases hok : frOk f
  · rw [show encV f = (sent f, 0) from if_pos hok]
    have hb := hd4_byt hok
    have hwl := wordB_len f
    have hch := chk_ok hok
    obtain ⟨o, n, p, q, bo⟩ := f
    obtain ⟨a1, a2, a3, a4, a5, a6, a7, a8, a9, a10, a11⟩ := hok
    simp only at a1 a2 a3 a4 a5 a6 a7 a8 a9 a10 a11 hl
    obtain ⟨o, rfl⟩ := nat_of a1
    obtain ⟨n, rfl⟩ := nat_of a3
    obtain ⟨p, rfl⟩ := nat_of a7
    obtain ⟨q, rfl⟩ := nat_of (show 0 ≤ q by omega)
    refine GSpec.enter (fn := Try.f18) Try.func18 rfl (by kernel_rfl) ?_
    repeat' (conv => whnf
             first
             | ((refine CallSt.rd (f22L ⟨o, n, p, q, bo⟩ hl _ _) ?_); rw [hch])
             | ((with_reducible apply LoadSt.whole (l := frV ⟨o, n, p, q, bo⟩)); (· (repeat (exact List.Mem.head _))); (· rfl))
             | ((refine ToStr.bytes (l := [o, n, p, q]) (Rd.own0 (List.Mem.head _)) hb rfl ?_))
             | ((refine CallSt.rd (f88 (wordB ⟨o, n, p, q, bo⟩) ?_ _ _) ?_); (· rw [hwl]; (try dsimp only); omega))
             | ((with_reducible apply StrAdd.mk); (· (simp only [List.length_append, List.length_map, List.length_cons, List.length_nil, ckB_len]; omega)))
             | (with_reducible refine NextSt.mk ?_)
             | (with_reducible refine OnBB.ff ?_)
             | ((with_reducible apply NW.u8N); (· with_reducible rfl); (· omega))
             | ((with_reducible apply Cmp.no); · omega)
             | ((with_reducible apply LoadSt.box); · (repeat (first | exact List.Mem.head _ | with_reducible apply List.mem_cons_of_mem)))
             | ((with_reducible refine AllocSt.mk ?_); intro _b _hb _hbO))
    conv => whnf
    refine FinSt.ret (by (try dsimp only); (try simp only [List.cons_append, List.nil_append]); (repeat (first | with_reducible exact List.Sublist.refl _ | with_reducible apply List.Sublist.cons))) ?_
    show Value.tuple ⟨[sV _, _]⟩ = strE (_, _)
    simp only [strE, sent, wordB, hd4, Int.toNat_natCast]
  · rw [show encV f = ([], 90) from if_neg hok]
    have hch := chk_no hok
    refine GSpec.enter (fn := Try.f18) Try.func18 rfl (by kernel_rfl) ?_
    repeat' (conv => whnf
             first
             | ((refine CallSt.rd (f22L f hl _ _) ?_); rw [hch])
             | ((with_reducible apply LoadSt.whole (l := frV f)); (· (repeat (exact List.Mem.head _))); (· rfl))
             | (with_reducible refine NextSt.mk ?_)
             | (with_reducible refine OnBB.tt ?_)
             | ((with_reducible apply Cmp.yes); · omega)
             | ((with_reducible refine AllocSt.mk ?_); intro _b _hb _hbO))
    conv => whnf
    refine FinSt.ret (by (try dsimp only); (try simp only [List.cons_append, List.nil_append]); (repeat (first | with_reducible exact List.Sublist.refl _ | with_reducible apply List.Sublist.cons))) ?_
    rfl
theorem f18 (f : Fr) (hl : f.body.length < 1000000) (h : View) (O : Hp) : GSpec Try.prog 18 [.agg ⟨frV f⟩] h O (Ret O (strE (encV f))) := f18L f (by omega) h O
end Go.Proofs.Ytlbmlimaobkhpaa
/- Reading what was sent: which frame, how many wrong bytes. -/
namespace Go.Proofs.Ytlbmlimaobkhpaa
open Go Go.Gv
set_option maxRecDepth 100000
set_option maxHeartbeats 4000000
set_option linter.unusedSimpArgs false
set_option linter.unusedVariables false

/-- Wrong places that explain the values, if there are. -/
def patF (n : Nat) (vs : List Nat) : Option (List (Nat × Nat)) :=
  if vs = List.replicate 6 0 then some [] else
  match (List.range n).find? (one n vs) with
  | some i => some [(i, vs.getD 0 0)]
  | none => match ((List.range n).flatMap fun i => (List.range i).map fun k => (i, k)).find? fun p => two n vs p.1 p.2 with
    | some (i, k) => some [(i, byy n vs i k), (k, oth n vs i k)]
    | none => none
theorem patOk_nil {n : Nat} : PatOk n (List.replicate 6 0) [] := ⟨by simp, by simp, by simp, fun j hj => by
  match j, hj with
  | 0, _ => rfl
  | 1, _ => rfl
  | 2, _ => rfl
  | 3, _ => rfl
  | 4, _ => rfl
  | 5, _ => rfl⟩
theorem patF_some {n : Nat} {vs : List Nat} (hb : byt vs) {l : List (Nat × Nat)} (h : patF n vs = some l) : PatOk n vs l := by
  unfold patF at h
  split at h
  · rename_i hz; cases h; rw [hz]; exact patOk_nil
  · split at h
    · rename_i i hi
      cases h
      exact one_ok hb (by have := List.mem_of_find?_eq_some hi; simpa using this) (List.find?_some hi)
    · split at h
      · rename_i i k hik
        cases h
        have hm := List.mem_of_find?_eq_some hik
        rw [List.mem_flatMap] at hm
        obtain ⟨i', h1, h2⟩ := hm
        obtain ⟨k', h3, h4⟩ := List.mem_map.1 h2
        cases h4
        have h5 := List.find?_some hik
        exact two_ok hb (by simpa using h1) (by simpa using h3) h5
      · cases h
theorem patF_none {n : Nat} {vs : List Nat} (hb : byt vs) (hv : vs.length = 6) (hn : n ≤ 255) (h : patF n vs = none) (l : List (Nat × Nat)) : ¬ PatOk n vs l := by
  unfold patF at h
  split at h
  · cases h
  · rename_i hz
    split at h
    · cases h
    · rename_i h1
      split at h
      · cases h
      · rename_i h2
        refine none_ok hb hv hn hz (fun i hi => ?_) (fun i hi k hk => ?_) l
        · have := List.find?_eq_none.1 h1 i (by simpa using hi)
          simpa using this
        · have := List.find?_eq_none.1 h2 (i, k) (List.mem_flatMap.2 ⟨i, by simpa using hi, List.mem_map.2 ⟨k, by simpa using hk, rfl⟩⟩)
          simpa using this
theorem syn_byt {w : List Nat} (hw : byt w) : byt (syn w) := fun x hx => by
  obtain ⟨j, _, rfl⟩ := List.mem_map.1 hx
  exact ev_lt _ hw
theorem syn_len (w : List Nat) : (syn w).length = 6 := by simp [syn]
/-- The word that was sent, if at most two places are wrong. -/
def wordF (s : List Nat) : Option (List Nat) := (patF s.length (syn s)).map (fixw s)
theorem wordF_good {s w : List Nat} (hs : byt s) (h : wordF s = some w) : good s w := by
  unfold wordF at h
  cases hp : patF s.length (syn s) with
  | none => rw [hp] at h; cases h
  | some l =>
    rw [hp] at h
    cases h
    exact (patF_some (syn_byt hs) hp).isGood hs
theorem wordF_of {s w : List Nat} (hs : byt s) (hl : s.length ≤ 255) (h : good s w) : wordF s = some w := by
  cases hw : wordF s with
  | some w' => rw [(wordF_good hs hw).uniq h hl]
  | none =>
    exfalso
    unfold wordF at hw
    cases hp : patF s.length (syn s) with
    | some l => rw [hp] at hw; cases hw
    | none => exact patF_none (syn_byt hs) (syn_len s) hl hp _ (good_pats h hs)
theorem wordF_no {s : List Nat} (hs : byt s) (hl : s.length ≤ 255) (h : ∀ l, ¬ PatOk s.length (syn s) l) : wordF s = none := by
  cases hw : wordF s with
  | none => rfl
  | some w => exact absurd (good_pats (wordF_good hs hw) hs) (h _)
/-- In so many places a word differs from what it was made of. -/
theorem set_same {w : List Nat} {i : Nat} : w.set i (w.getD i 0) = w := by
  apply List.ext_getElem?
  intro j
  rw [List.getElem?_set]
  split
  · rename_i e; subst e
    split
    · rename_i h; rw [List.getD_eq_getElem?_getD, List.getElem?_eq_getElem h]; rfl
    · rename_i h; rw [List.getElem?_eq_none (by omega)]
  · rfl
theorem ap_set1 {w s : List Nat} {i x : Nat} (hl : w.length = s.length) (hi : i < w.length) (hx : x ≠ s.getD i 0) (hw : w.getD i 0 = s.getD i 0) : ap (w.set i x) s = ap w s + 1 := by
  have h1 := ap_get (w.set i x) s i (by rw [List.length_set]; exact hl) (by rw [List.length_set]; exact hi)
  rw [List.set_set, getD_self hi, if_neg hx, ← hw, set_same] at h1
  exact h1
theorem xor_ne {a e : Nat} (h : e ≠ 0) : a ^^^ e ≠ a := fun h1 => h (by
  have : a ^^^ (a ^^^ e) = a ^^^ a := by rw [h1]
  rwa [← Nat.xor_assoc, Nat.xor_self, Nat.zero_xor] at this)
theorem PatOk.count {s vs : List Nat} {l : List (Nat × Nat)} (h : PatOk s.length vs l) : ap (fixw s l) s = l.length := by
  match l, h with
  | [], _ => exact ap_self s
  | [(i, e)], h =>
    have he := h.mem (i, e) (by simp)
    show ap (s.set i _) s = 1
    rw [ap_set1 rfl he.1 (xor_ne he.2.1) rfl, ap_self]
  | [(i, e), (k, f)], h =>
    have he := h.mem (i, e) (by simp)
    have hf := h.mem (k, f) (by simp)
    have ha := h.asc
    simp at he hf ha
    show ap ((s.set i (s.getD i 0 ^^^ e)).set k ((s.set i (s.getD i 0 ^^^ e)).getD k 0 ^^^ f)) s = 2
    have hg : (s.set i (s.getD i 0 ^^^ e)).getD k 0 = s.getD k 0 := by rw [getD_set, if_neg (by omega)]
    rw [ap_set1 (by rw [List.length_set]) (by rw [List.length_set]; exact hf.1) (by rw [hg]; exact xor_ne hf.2.1) hg, ap_set1 rfl he.1 (xor_ne he.2.1) rfl, ap_self]
  | _ :: _ :: _ :: _, h => have := h.len; simp at this

def frOf (w : List Nat) : Fr := ⟨w.getD 0 0, w.getD 1 0, w.getD 2 0, w.getD 3 0, ((w.take (w.length - 6)).drop 4).map UInt8.ofNat⟩
def fr0 : Fr := ⟨0, 0, 0, 0, []⟩
def decW (s : List UInt8) : Option (List Nat) := if 10 ≤ s.length ∧ s.length ≤ 42 then (wordF (nb s)).bind fun w => if frOk (frOf w) then some w else none else none
def decV (s : List UInt8) : Fr × Nat × Int :=
  match decW s with
  | some w => (frOf w, ap w (nb s), 0)
  | none => (fr0, 0, 91)
def decR (p : Fr × Nat × Int) : Value := .tuple ⟨[.agg ⟨frV p.1⟩, iN p.2.1, .int .i64 p.2.2]⟩
theorem decV_bad {s : List UInt8} (h : ¬ (10 ≤ s.length ∧ s.length ≤ 42)) : decV s = (fr0, 0, 91) := by simp only [decV, decW, if_neg h]
theorem decV_none {s : List UInt8} (h : wordF (nb s) = none) : decV s = (fr0, 0, 91) := by
  simp only [decV, decW, h, Option.bind_none]
  split <;> rename_i e
  · split at e <;> cases e
  · rfl
theorem decV_no {s : List UInt8} {w : List Nat} (h : wordF (nb s) = some w) (hf : ¬ frOk (frOf w)) : decV s = (fr0, 0, 91) := by
  simp only [decV, decW, h, Option.bind_some, if_neg hf]
  split <;> rename_i e
  · split at e <;> cases e
  · rfl
theorem decV_ok {s : List UInt8} {w : List Nat} (hl : 10 ≤ s.length ∧ s.length ≤ 42) (h : wordF (nb s) = some w) (hf : frOk (frOf w)) : decV s = (frOf w, ap w (nb s), 0) := by
  simp only [decV, decW, h, Option.bind_some, if_pos hf, if_pos hl]
end Go.Proofs.Ytlbmlimaobkhpaa
/- Decode. -/
namespace Go.Proofs.Ytlbmlimaobkhpaa
open Go Go.Gv
set_option maxRecDepth 100000
set_option maxHeartbeats 4000000
set_option linter.unusedSimpArgs false
set_option linter.unusedVariables false

theorem f91s (s : List UInt8) (a : Option Addr) (cap : Nat) (hl : s.length < 1000000) (h : View) (O : Hp) (hr : Rd h O a ((nb s).map bN)) : GSpec Try.prog 91 [.slice a s.length cap] h O (Ret O (.agg ⟨(syn (nb s)).map iN⟩)) := by
  have := f91 (nb s) a cap (nb_byt s) (by rw [nb_len]; exact hl) h O hr
  rwa [nb_len] at this
theorem Rd.pre {h : View} {O : Hp} {b : Nat} {u v : List Nat} {ty : TypeId} {fr : Nat × Nat} (m : (b, Obj.cells ⟨(u ++ v).map bN⟩ ty fr) ∈ O) : Rd h O (some ⟨b, 0, none⟩) (u.map bN) := by
  have := Rd.own0 (h := h) m
  rw [List.map_append] at this
  exact this.left
theorem getD_app {u v : List Nat} {i : Nat} (h : i < u.length) : (u ++ v).getD i 0 = u.getD i 0 := by
  simp only [List.getD_eq_getElem?_getD]; rw [List.getElem?_append_left h]
theorem fixw_app (w : List Nat) : ∀ (l m : List (Nat × Nat)), fixw w (l ++ m) = fixw (fixw w l) m
  | [], _ => rfl
  | (i, e) :: l, m => fixw_app _ l m
theorem fixw_take {w : List Nat} {l : List (Nat × Nat)} {k : Nat} (h : k < l.length) : fixw w (l.take (k + 1)) = (fixw w (l.take k)).set (l.getD k default).1 ((fixw w (l.take k)).getD (l.getD k default).1 0 ^^^ (l.getD k default).2) := by
  rw [take_succ (d := default) h, fixw_app]
  obtain ⟨i, e⟩ := l.getD k default
  rfl

theorem f20 (s : List UInt8) (hs : s.length < 1000000) (h : View) (O : Hp) : GSpec Try.prog 20 [sV s] h O (Ret O (decR (decV s))) := by
  by_cases hl : 10 ≤ s.length ∧ s.length ≤ 42
  · have hnl := nb_len s
    refine GSpec.enter (fn := Try.f20) Try.func20 rfl (by kernel_rfl) ?_
    repeat' (conv => whnf
             first
             | (apply BytesSt.nat; intro bb cap kk hcap)
             | (refine CallSt.rd (f91s s _ _ hs _ _ (Rd.pre (by (repeat (first | exact List.Mem.head _ | with_reducible apply List.mem_append_right))))) ?_)
             | (refine CallSt.new (f90 s.length (syn (nb s)) (by omega) (syn_len _) (syn_byt (nb_byt s)) _ _) ?_; rintro _ G (⟨a, l, rfl, hr, hP⟩ | ⟨rfl, hno⟩))
             | (with_reducible refine NextSt.mk ?_)
             | (with_reducible refine OnBB.tt ?_)
             | (with_reducible refine OnBB.ff ?_)
             | ((with_reducible apply Cmp.no); · omega)
             | ((with_reducible apply LoadSt.boxAgg); · (repeat (first | exact List.Mem.head _ | with_reducible apply List.mem_append_right | with_reducible apply List.mem_cons_of_mem)))
             | ((with_reducible refine AllocSt.mk ?_); intro _b _hb _hbO)
             | ((with_reducible apply StoreSt.box); (· (repeat (first | exact Upd.hd | apply Upd.tl | apply Upd.app))); (· rfl); (· rfl); (· rfl)))
    · have hP' : PatOk (nb s).length (syn (nb s)) l := by rw [hnl]; exact hP
      have hgood := hP'.isGood (nb_byt s)
      have hw := wordF_of (nb_byt s) (by omega) hgood
      have hcnt := hP'.count
      have hl2 := hP.len
      have hfl : ∀ m, (fixw (nb s) m).length = s.length := fun m => by rw [fixw_len, hnl]
      have hfb : ∀ k, byt (fixw (nb s) (l.take k)) := fun k => fixw_byt _ _ (nb_byt s) fun p hp => (hP.mem p (List.mem_of_mem_take hp)).2.2
      refine LoopSt.fix [9, 35, 36, 37, 38, 39, 40, 41, 42, 43, 44, 45, 46, 47, 48, 49] (fun (k : Nat) => [(35, iN k)]) (fun k => G ++ (bb, .cells ⟨(fixw (nb s) (l.take k) ++ List.replicate kk 0).map bN⟩ 5 (cap, cap + 1)) :: (_b, .cells ⟨frV fr0⟩ 23 (0, 0)) :: O) (fun k => k ≤ l.length) (fun k => l.length - k) (0) _ (Wk.refl _ _) (rfl) ?_ ?_ ?_
      · repeat' (first | exact True.intro | refine And.intro ?_ ?_ | rfl)
      · exact Nat.zero_le _
      · intro k d hk
        by_cases hkl : k < l.length
        · have hm := hP.mem _ (getD_mem (d := default) hkl)
          have h1 := hfl (l.take k)
          have h2 := (hfb k).get (l.getD k default).1
          have h3 : (fixw (nb s) (l.take k) ++ List.replicate kk 0).getD (l.getD k default).1 0 = (fixw (nb s) (l.take k)).getD (l.getD k default).1 0 := getD_app (by omega)
          have h4 : (fixw (nb s) (l.take k) ++ List.replicate kk 0).length = s.length + kk := by rw [List.length_append, h1, List.length_replicate]
          repeat' (conv => whnf
                   first
                   | ((with_reducible refine DrawSt.walk [0, 1, 2, 3, 4, 5, 6, 7, 8, 9, 10] mixed ?_ ?_); · decide +kernel)
                   | ((with_reducible apply LoadSt.rdg (g := fV) (s := 2)); (· rfl); (· (repeat ((with_reducible apply Rd.appL; with_reducible assumption)))); (· exact fun _ => rfl); (· decide); · (omega))
                   | ((with_reducible apply IdxSl.rdg (g := fV) (s := 2)); (· with_reducible assumption); (· exact fun _ => rfl); (· decide); (· rfl); (· with_reducible rfl); (· (omega)); · (omega))
                   | (with_reducible refine NextSt.mk ?_)
                   | (with_reducible refine OnBB.tt ?_)
                   | ((with_reducible apply NW.addN); (· with_reducible rfl); (· exact natL _); (· omega))
                   | ((with_reducible apply NW.u8N); (· with_reducible rfl); (· omega))
                   | ((with_reducible apply Cmp.yes); · omega)
                   | ((with_reducible apply LoadSt.ownN); (· (repeat (first | exact List.Mem.head _ | with_reducible apply List.mem_append_right | with_reducible apply List.mem_cons_of_mem))); (· (exact Nat.zero_add _)); · (omega))
                   | ((with_reducible apply LoadSt.box); · (repeat (exact List.Mem.head _)))
                   | ((with_reducible refine AllocSt.mk ?_); intro _b _hb _hbO)
                   | ((with_reducible apply StoreSt.mapd); (· (repeat (first | exact Upd.hd | apply Upd.tl | apply Upd.app))); (· (exact Nat.zero_add _)); (· rfl); (· rfl); (· (omega)); · (omega))
                   | ((with_reducible apply StoreSt.box); (· (repeat (exact Upd.hd))); (· rfl); (· rfl); (· rfl))
                   | ((with_reducible apply Bits.xor8N); (· with_reducible rfl); (· with_reducible rfl); (· omega))
                   | ((with_reducible apply IdxSl.own1); (· rfl); (· with_reducible rfl); · (omega)))
          · rw [h3, List.set_append_left _ _ (by omega), ← fixw_take hkl]
            refine RoundFix.mk (k + 1) ?_ ?_ _ rfl (Wk.drop (by (try dsimp only); (try simp only [List.cons_append, List.nil_append]); (repeat (first | with_reducible exact List.Sublist.refl _ | with_reducible apply List.Sublist.cons)))) ?_
            · omega
            · repeat' (first | exact True.intro | refine And.intro ?_ ?_ | rfl)
            · omega
        · have : k = l.length := by omega
          subst this
          rw [List.take_length] at *
          have h1 := hfl l
          have h4 : (fixw (nb s) l ++ List.replicate kk 0).length = s.length + kk := by rw [List.length_append, h1, List.length_replicate]
          have e0 : (fixw (nb s) l ++ List.replicate kk 0).getD 0 0 = (fixw (nb s) l).getD 0 0 := getD_app (by omega)
          have e1 : (fixw (nb s) l ++ List.replicate kk 0).getD 1 0 = (fixw (nb s) l).getD 1 0 := getD_app (by omega)
          have e2 : (fixw (nb s) l ++ List.replicate kk 0).getD 2 0 = (fixw (nb s) l).getD 2 0 := getD_app (by omega)
          have e3 : (fixw (nb s) l ++ List.replicate kk 0).getD 3 0 = (fixw (nb s) l).getD 3 0 := getD_app (by omega)
          have b0 := hgood.byt.get 0
          have b1 := hgood.byt.get 1
          have b2 := hgood.byt.get 2
          have b3 := hgood.byt.get 3
          have hbl : (frOf (fixw (nb s) l)).body.length < 1000000 := by simp [frOf, h1]; omega
          have hld : ((fixw (nb s) l).take ((fixw (nb s) l).length - 6)).drop 4 = ((fixw (nb s) l).drop 4).take (s.length - 10) := by rw [h1, List.drop_take]; congr 1
          have hlb : byt (((fixw (nb s) l).take ((fixw (nb s) l).length - 6)).drop 4) := (hgood.byt.take _).drop _
          have h7 : (((fixw (nb s) l).map bN).drop (4 * 1)).take (s.length - 10) = (((fixw (nb s) l).drop 4).take (s.length - 10)).map bN := by rw [List.map_take, List.map_drop]
          by_cases hf : frOk (frOf (fixw (nb s) l))
          · rw [decV_ok hl hw hf, hcnt]
            have hch := chk_ok hf
            repeat' (conv => whnf
                     first
                     | (((with_reducible apply LoadSt.ownN); (· (repeat (first | exact List.Mem.head _ | with_reducible apply List.mem_append_right))); (· (exact Nat.zero_add _)); (· (omega)); first | rw [e0] | rw [e1] | rw [e2] | rw [e3]))
                     | (refine ToStr.bytes (l := ((fixw (nb s) l).take ((fixw (nb s) l).length - 6)).drop 4) (by rw [hld, ← h7]; exact ((Rd.pre (b := bb) (u := fixw (nb s) l) (v := List.replicate kk 0) (by (repeat (first | exact List.Mem.head _ | with_reducible apply List.mem_append_right)))).slice 4 cap 1 (fun e => by omega)).take (s.length - 10)) hlb (by rw [List.length_drop, List.length_take, h1]; omega) ?_)
                     | ((refine CallSt.rd (f22 (frOf (fixw (nb s) l)) hbl _ _) ?_); rw [hch])
                     | ((with_reducible refine DrawSt.walk [0, 1, 2, 3, 4, 5, 6, 7, 8, 9, 10, 11, 12, 13, 14, 15, 16, 17, 18, 19, 20, 21, 22, 23, 24] mixed ?_ ?_); · decide +kernel)
                     | (with_reducible refine NextSt.mk ?_)
                     | (with_reducible refine OnBB.ff ?_)
                     | ((with_reducible apply NW.subN); (· with_reducible rfl); (· exact natL _); (· omega))
                     | ((with_reducible apply NW.i64N); (· with_reducible rfl); (· omega))
                     | ((with_reducible apply Cmp.no); · omega)
                     | ((with_reducible apply LoadSt.boxAgg); · (repeat (first | exact List.Mem.head _ | with_reducible apply List.mem_append_right | with_reducible apply List.mem_cons_of_mem)))
                     | ((with_reducible refine AllocSt.mk ?_); intro _b _hb _hbO)
                     | ((with_reducible apply StoreSt.box); (· (repeat (first | exact Upd.hd | apply Upd.tl | apply Upd.app))); (· rfl); (· rfl); (· rfl))
                     | ((with_reducible apply IdxSl.own1); (· rfl); (· exact natL _); · (omega))
                     | ((with_reducible apply SlSl.lohi); (· exact natL _); (· with_reducible rfl); (· (omega)); (· (omega))))
            conv => whnf
            refine FinSt.ret (by (try dsimp only); (try simp only [List.cons_append, List.nil_append]); (repeat (first | with_reducible exact List.Sublist.refl _ | with_reducible apply List.Sublist.cons | with_reducible apply sub_skip))) ?_
            rfl
          · rw [decV_no hw hf]
            have hch := chk_no hf
            repeat' (conv => whnf
                     first
                     | (((with_reducible apply LoadSt.ownN); (· (repeat (first | exact List.Mem.head _ | with_reducible apply List.mem_append_right))); (· (exact Nat.zero_add _)); (· (omega)); first | rw [e0] | rw [e1] | rw [e2] | rw [e3]))
                     | (refine ToStr.bytes (l := ((fixw (nb s) l).take ((fixw (nb s) l).length - 6)).drop 4) (by rw [hld, ← h7]; exact ((Rd.pre (b := bb) (u := fixw (nb s) l) (v := List.replicate kk 0) (by (repeat (first | exact List.Mem.head _ | with_reducible apply List.mem_append_right)))).slice 4 cap 1 (fun e => by omega)).take (s.length - 10)) hlb (by rw [List.length_drop, List.length_take, h1]; omega) ?_)
                     | ((refine CallSt.rd (f22 (frOf (fixw (nb s) l)) hbl _ _) ?_); rw [hch])
                     | ((with_reducible refine DrawSt.walk [0, 1, 2, 3, 4, 5, 6, 7, 8, 9, 10, 11, 12, 13, 14, 15, 16, 17, 18, 19, 20, 21, 22, 23, 24] mixed ?_ ?_); · decide +kernel)
                     | (with_reducible refine NextSt.mk ?_)
                     | (with_reducible refine OnBB.tt ?_)
                     | (with_reducible refine OnBB.ff ?_)
                     | ((with_reducible apply NW.subN); (· with_reducible rfl); (· exact natL _); (· omega))
                     | ((with_reducible apply NW.i64N); (· with_reducible rfl); (· omega))
                     | ((with_reducible apply Cmp.yes); · omega)
                     | ((with_reducible apply Cmp.no); · omega)
                     | ((with_reducible apply LoadSt.boxAgg); · (repeat (first | exact List.Mem.head _ | with_reducible apply List.mem_append_right | with_reducible apply List.mem_cons_of_mem)))
                     | ((with_reducible refine AllocSt.mk ?_); intro _b _hb _hbO)
                     | ((with_reducible apply StoreSt.box); (· (repeat (first | exact Upd.hd | apply Upd.tl | apply Upd.app))); (· rfl); (· rfl); (· rfl))
                     | ((with_reducible apply IdxSl.own1); (· rfl); (· exact natL _); · (omega))
                     | ((with_reducible apply SlSl.lohi); (· exact natL _); (· with_reducible rfl); (· (omega)); (· (omega))))
            conv => whnf
            refine FinSt.ret (by (try dsimp only); (try simp only [List.cons_append, List.nil_append]); (repeat (first | with_reducible exact List.Sublist.refl _ | with_reducible apply List.Sublist.cons | with_reducible apply sub_skip))) ?_
            rfl
    · rw [decV_none (wordF_no (nb_byt s) (by omega) (by rw [hnl]; exact hno))]
      conv => whnf
      refine FinSt.ret (by (try dsimp only); (try simp only [List.cons_append, List.nil_append]); (repeat (first | with_reducible exact List.Sublist.refl _ | with_reducible apply List.Sublist.cons | with_reducible apply sub_skip))) ?_
      rfl
  · rw [decV_bad hl]
    refine GSpec.enter (fn := Try.f20) Try.func20 rfl (by kernel_rfl) ?_
    repeat' (conv => whnf
             first
             | (with_reducible refine NextSt.mk ?_)
             | (with_reducible refine OnBB.tt ?_)
             | (with_reducible refine OnBB.ff ?_)
             | ((with_reducible apply Cmp.yes); · omega)
             | ((with_reducible apply LoadSt.boxAgg); · (repeat (exact List.Mem.head _)))
             | ((with_reducible refine AllocSt.mk ?_); intro _b _hb _hbO)
             | ((with_reducible apply StoreSt.box); (· (repeat (exact Upd.hd))); (· rfl); (· rfl); (· rfl))
             | ((with_reducible refine Cmp.mk ?_ ?_) <;> intro _hc))
    · conv => whnf
      refine FinSt.ret (by (try dsimp only); (try simp only [List.cons_append, List.nil_append]); (repeat (first | with_reducible exact List.Sublist.refl _ | with_reducible apply List.Sublist.cons))) ?_
      rfl
    · conv => whnf
      refine FinSt.ret (by (try dsimp only); (try simp only [List.cons_append, List.nil_append]); (repeat (first | with_reducible exact List.Sublist.refl _ | with_reducible apply List.Sublist.cons))) ?_
      rfl
end Go.Proofs.Ytlbmlimaobkhpaa
/- The reference's search for what is wrong: its parts. -/
namespace Go.Proofs.Ytlbmlimaobkhpaa
open Go Go.Gv
set_option maxRecDepth 100000
set_option maxHeartbeats 4000000
set_option linter.unusedSimpArgs false
set_option linter.unusedVariables false

theorem f153 (s : List UInt8) (i e : Nat) (hs : s.length < 1000000) (hi : i < s.length) (he : e < 256) (h : View) (O : Hp) : GSpec Try.prog 153 [sV s, iN i, iN e] h O (Ret O (sV (((nb s).set i ((nb s).getD i 0 ^^^ e)).map UInt8.ofNat))) := by
  have hnl := nb_len s
  have h1 : ∀ kk, (nb s ++ List.replicate kk 0).getD i 0 = (nb s).getD i 0 := fun kk => getD_app (by omega)
  have h2 := (nb_byt s).get i
  have h3 : ∀ kk, (nb s ++ List.replicate kk 0).length = s.length + kk := fun kk => by rw [List.length_append, hnl, List.length_replicate]
  refine GSpec.enter (fn := Try.f153) Try.func153 rfl (by kernel_rfl) ?_
  repeat' (conv => whnf
           first
           | (apply BytesSt.nat; intro bb cap kk hcap; have h4 := h1 kk; have h5 := h3 kk)
           | (refine ToStr.bytes (l := (nb s).set i ((nb s).getD i 0 ^^^ e)) (by rw [h4, List.set_append_left _ _ (by omega)]; exact Rd.pre (by (repeat (exact List.Mem.head _)))) ((nb_byt s).set i (xor_lt h2 he)) (by rw [List.length_set, hnl]) ?_)
           | (with_reducible refine NextSt.mk ?_)
           | ((with_reducible apply NW.u8N); (· with_reducible rfl); (· omega))
           | ((with_reducible apply LoadSt.ownN); (· (repeat (exact List.Mem.head _))); (· (exact Nat.zero_add _)); · (omega))
           | ((with_reducible apply StoreSt.mapd); (· (repeat (exact Upd.hd))); (· (exact Nat.zero_add _)); (· rfl); (· rfl); (· (omega)); · (omega))
           | ((with_reducible apply Bits.xor8N); (· with_reducible rfl); (· with_reducible rfl); (· omega))
           | ((with_reducible apply IdxSl.own1); (· rfl); (· with_reducible rfl); · (omega)))
  conv => whnf
  refine FinSt.ret (by (try dsimp only); (try simp only [List.cons_append, List.nil_append]); (repeat (first | with_reducible exact List.Sublist.refl _ | with_reducible apply List.Sublist.cons))) ?_
  rfl

/-! ### agrees -/
theorem TT_app (j : Nat) : ∀ u v, TT j (u ++ v) = TT j u ^^^ TT j v
  | [], v => by show TT j v = 0 ^^^ _; rw [Nat.zero_xor]
  | (x, e) :: u, v => by
    show mul e (pw x j) ^^^ TT j (u ++ v) = (mul e (pw x j) ^^^ TT j u) ^^^ TT j v
    rw [TT_app j u v, Nat.xor_assoc]
theorem TT_take (j : Nat) {q : List (Nat × Nat)} {k : Nat} (h : k < q.length) : TT j (q.take (k + 1)) = TT j (q.take k) ^^^ mul ((q.map Prod.snd).getD k 0) (pw ((q.map Prod.fst).getD k 0) j) := by
  have h1 : ∀ p : Nat × Nat, TT j [p] = mul p.2 (pw p.1 j) := fun ⟨i, e⟩ => by
    show _ ^^^ 0 = _
    rw [Nat.xor_zero]
  have h2 : (q.map Prod.snd).getD k 0 = (q.getD k default).2 := by
    simp only [List.getD_eq_getElem?_getD, List.getElem?_map, List.getElem?_eq_getElem h]; rfl
  have h3 : (q.map Prod.fst).getD k 0 = (q.getD k default).1 := by
    simp only [List.getD_eq_getElem?_getD, List.getElem?_map, List.getElem?_eq_getElem h]; rfl
  rw [take_succ (d := default) h, TT_app, h1, h2, h3]
def agrV (q : List (Nat × Nat)) (vs : List Nat) : Bool := (List.range 6).all fun j => TT j q == vs.getD j 0
theorem agrV_iff {q : List (Nat × Nat)} {vs : List Nat} : agrV q vs = true ↔ ∀ j < 6, TT j q = vs.getD j 0 := by simp [agrV]
theorem PT_TT (n j : Nat) : ∀ l : List (Nat × Nat), TT j (l.map fun p => (X n p.1, p.2)) = PT n j l
  | [] => rfl
  | (i, e) :: l => by
    show mul e (pw (pw 2 (n - 1 - i)) j) ^^^ TT j _ = mul e (pw 2 ((n - 1 - i) * j)) ^^^ PT n j l
    rw [pw_mul (by decide), PT_TT n j l]
theorem agr_expl (n : Nat) (l : List (Nat × Nat)) (vs : List Nat) : agrV (l.map fun p => (X n p.1, p.2)) vs = explV n l vs := by
  simp only [agrV, explV, PT_TT]
theorem f152 (av ax ae : Option Addr) (cv cx ce : Nat) (vs : List Nat) (q : List (Nat × Nat)) (hv : vs.length = 6) (hq : q.length < 1000) (hx : byt (q.map Prod.fst)) (he : byt (q.map Prod.snd)) (h : View) (O : Hp)
    (hrv : Rd h O av (vs.map iN)) (hrx : Rd h O ax ((q.map Prod.fst).map iN)) (hre : Rd h O ae ((q.map Prod.snd).map iN)) :
    GSpec Try.prog 152 [.slice av 6 cv, .slice ax q.length cx, .slice ae q.length ce] h O (Ret O (.bool (agrV q vs))) := by
  have hlx : (q.map Prod.fst).length = q.length := List.length_map _
  have hle : (q.map Prod.snd).length = q.length := List.length_map _
  refine GSpec.enter (fn := Try.f152) Try.func152 rfl (by kernel_rfl) ?_
  repeat' (conv => whnf
           first
           | (with_reducible refine NextSt.mk ?_))
  refine LoopSt.fix [6, 7, 8, 9, 10, 11, 12, 13, 14, 15, 16, 17, 18, 19, 20, 21, 22, 23, 24, 25, 26, 27, 28, 29, 30, 31, 32, 33, 34, 35, 36, 37, 38, 39, 40, 41, 42, 43, 44, 45] (fun (j : Nat) => [(7, iN j)]) (fun _ => _) (fun j => j ≤ 6 ∧ ∀ i < j, TT i q = vs.getD i 0) (fun j => 6 - j) (0) _ (Wk.refl _ _) (rfl) ?_ ?_ ?_
  · repeat' (first | exact True.intro | refine And.intro ?_ ?_ | rfl)
  · exact ⟨Nat.zero_le _, fun i hi => by omega⟩
  · rintro j d ⟨hj, hJ⟩
    repeat' (conv => whnf
             first
             | (with_reducible refine NextSt.mk ?_)
             | (with_reducible refine OnBB.tt ?_)
             | (with_reducible refine OnBB.ff ?_)
             | ((with_reducible refine Cmp.mk ?_ ?_) <;> intro _hc))
    · refine LoopSt.fix [8, 9, 10, 11, 16, 17, 18, 19, 20, 21, 22, 23, 24, 25, 26, 27, 28, 29, 30, 31, 32, 33, 34, 35, 36, 37, 38, 39] (fun (k : Nat) => [(8, iN (TT j (q.take k))), (9, iN k)]) (fun _ => _) (fun k => k ≤ q.length) (fun k => q.length - k) (0) _ (Wk.refl _ _) (rfl) ?_ ?_ ?_
      · repeat' (first | exact True.intro | refine And.intro ?_ ?_ | rfl)
      · exact Nat.zero_le _
      · intro k d hk
        by_cases hkq : k < q.length
        · have h1 := he.get k
          have h2 := hx.get k
          have h3 : TT j (q.take k) < 256 := TT_lt j _ fun p hp => ⟨hx _ (List.mem_map.2 ⟨p, List.mem_of_mem_take hp, rfl⟩), he _ (List.mem_map.2 ⟨p, List.mem_of_mem_take hp, rfl⟩)⟩
          repeat' (conv => whnf
                   first
                   | (with_reducible refine NextSt.mk ?_)
                   | (with_reducible refine OnBB.tt ?_)
                   | ((with_reducible apply Cmp.yes); · omega)
                   | ((with_reducible apply LoadSt.rdN); (· (repeat (with_reducible assumption))); · (omega))
                   | ((with_reducible apply IdxSl.rd1); (· with_reducible assumption); (· rfl); (· with_reducible rfl); (· (omega)); · ((simp only [List.length_map, List.length_append, List.length_cons, List.length_nil, List.length_take, List.length_drop, List.length_replicate, List.length_set] at *; omega))))
          · refine LoopSt.fix [10, 11, 26, 27, 28, 29, 30, 31, 32, 33, 34, 35, 36] (fun (m : Nat) => [(10, iN (mul ((q.map Prod.snd).getD k 0) (pw ((q.map Prod.fst).getD k 0) m))), (11, iN m)]) (fun _ => _) (fun m => m ≤ j) (fun m => j - m) (0) _ (Wk.refl _ _) (rfl) ?_ ?_ ?_
            · repeat' (first | exact True.intro | refine And.intro ?_ ?_ | exact congrArg iN (mul_one h1).symm | rfl)
            · exact Nat.zero_le _
            · intro m d hm
              have h4 := mul_lt (pw ((q.map Prod.fst).getD k 0) m) h1
              repeat' (conv => whnf
                       first
                       | ((with_reducible apply CallSt.rd (f := 98)); · (apply GSpec.cast (sp := f98 _ _ ?_ ?_ _ _); (· (repeat' (with_reducible rfl))); all_goals (with_reducible assumption)))
                       | (with_reducible refine NextSt.mk ?_)
                       | (with_reducible refine OnBB.tt ?_)
                       | (with_reducible refine OnBB.ff ?_)
                       | ((with_reducible apply NW.addN); (· with_reducible rfl); (· exact natL _); (· omega))
                       | ((with_reducible apply LoadSt.rdN); (· (repeat (with_reducible assumption))); · (omega))
                       | ((with_reducible apply Bits.xorN); (· with_reducible rfl); (· with_reducible rfl); (· (omega)))
                       | ((with_reducible apply IdxSl.rd1); (· with_reducible assumption); (· rfl); (· with_reducible rfl); (· (omega)); · ((simp only [List.length_map, List.length_append, List.length_cons, List.length_nil, List.length_take, List.length_drop, List.length_replicate, List.length_set] at *; omega)))
                       | ((with_reducible refine Cmp.mk ?_ ?_) <;> intro _hc))
              · refine RoundFix.mk (m + 1) ?_ ?_ _ rfl (Wk.drop (by (try dsimp only); (try simp only [List.cons_append, List.nil_append]); (repeat (with_reducible exact List.Sublist.refl _)))) ?_
                · omega
                · repeat' (first | exact True.intro | refine And.intro ?_ ?_ | exact congrArg iN (mul_assoc h1 (pw_lt m) h2) | rfl)
                · omega
              · have : m = j := by omega
                subst this
                rw [← TT_take m hkq]
                refine RoundFix.mk (k + 1) ?_ ?_ _ rfl (Wk.drop (by (try dsimp only); (try simp only [List.cons_append, List.nil_append]); (repeat (with_reducible exact List.Sublist.refl _)))) ?_
                · omega
                · repeat' (first | exact True.intro | refine And.intro ?_ ?_ | rfl)
                · omega
        · have hk2 : q.take k = q := List.take_of_length_le (by omega)
          rw [hk2]
          repeat' (conv => whnf
                   first
                   | (with_reducible refine NextSt.mk ?_)
                   | (with_reducible refine OnBB.tt ?_)
                   | (with_reducible refine OnBB.ff ?_)
                   | ((with_reducible apply NW.addN); (· with_reducible rfl); (· exact natL _); (· omega))
                   | ((with_reducible apply Cmp.no); · omega)
                   | ((with_reducible apply LoadSt.rdN); (· (repeat (with_reducible assumption))); · (omega))
                   | ((with_reducible apply IdxSl.rd1); (· with_reducible assumption); (· rfl); (· with_reducible rfl); (· (omega)); · ((simp only [List.length_map, List.length_append, List.length_cons, List.length_nil, List.length_take, List.length_drop, List.length_replicate, List.length_set] at *; omega)))
                   | ((with_reducible refine Cmp.mk ?_ ?_) <;> intro _hc))
          · refine FinSt.ret (by (try dsimp only); (try simp only [List.cons_append, List.nil_append]); (repeat (with_reducible exact List.Sublist.refl _))) ?_
            have : agrV q vs = false := by
              rw [← Bool.not_eq_true, agrV_iff]
              intro H
              have := H j (by omega)
              omega
            rw [this]
          · refine RoundFix.mk (j + 1) ?_ ?_ _ rfl (Wk.drop (by (try dsimp only); (try simp only [List.cons_append, List.nil_append]); (repeat (with_reducible exact List.Sublist.refl _)))) ?_
            · omega
            · repeat' (first | exact True.intro | refine And.intro ?_ ?_ | rfl)
            · refine ⟨by omega, fun i hi => ?_⟩
              by_cases hij : i = j
              · subst hij; omega
              · exact hJ i (by omega)
    · refine FinSt.ret (by (try dsimp only); (try simp only [List.cons_append, List.nil_append]); (repeat (with_reducible exact List.Sublist.refl _))) ?_
      rw [agrV_iff.2 fun i hi => hJ i (by omega)]
end Go.Proofs.Ytlbmlimaobkhpaa
/- The reference's search for what is wrong. -/
namespace Go.Proofs.Ytlbmlimaobkhpaa
open Go Go.Gv
set_option maxRecDepth 100000
set_option maxHeartbeats 40000000
set_option linter.unusedSimpArgs false
set_option linter.unusedVariables false

theorem good_of {w : List Nat} {l : List (Nat × Nat)} (hw : byt w) (h2 : l.length ≤ 2) (hm : ∀ p ∈ l, p.1 < w.length ∧ p.2 < 256) (hs : ∀ j < 6, PT w.length j l = (syn w).getD j 0) : good w (fixw w l) where
  len := fixw_len l w
  byt := fixw_byt l w hw fun p hp => (hm p hp).2
  cw := fun j hj => by
    rw [fixw_ev j l w hw hm, hs j hj, syn_get w hj, Nat.xor_self]
  near := by have := fixw_ap l w w rfl; rw [ap_self] at this; omega
theorem X_ne2 {n i k : Nat} (hn : n ≤ 255) (hi : i < n) (hk : k < n) (h : i ≠ k) : X n i ^^^ X n k ≠ 0 := by
  intro h1
  have := pw2_inj (i := n - 1 - i) (j := n - 1 - k) (by omega) (by omega) (xor_eq_zero h1)
  omega
theorem two_of2 {n : Nat} {vs : List Nat} (hb : byt vs) (hn : n ≤ 255) {i k e f : Nat} (hi : i < n) (hk : k < n) (hik : i ≠ k) (h : PatOk n vs [(i, e), (k, f)]) : explV n [(i, byy n vs i k), (k, oth n vs i k)] vs = true := by
  have he := h.mem (i, e) (by simp)
  have hf := h.mem (k, f) (by simp)
  simp only at he hf
  have s0 := h.sum 0 (by decide)
  have s1 := h.sum 1 (by decide)
  have s0' : e ^^^ f = vs.getD 0 0 := by
    rw [← s0]
    show _ = mul e (pw 2 ((n - 1 - i) * 0)) ^^^ (mul f (pw 2 ((n - 1 - k) * 0)) ^^^ 0)
    rw [mul_one_pw he.2.2, mul_one_pw hf.2.2, Nat.xor_zero]
  have s1' : mul e (X n i) ^^^ mul f (X n k) = vs.getD 1 0 := by
    rw [← s1]
    show _ = mul e (pw 2 ((n - 1 - i) * 1)) ^^^ (mul f (pw 2 ((n - 1 - k) * 1)) ^^^ 0)
    rw [Nat.mul_one, Nat.mul_one, Nat.xor_zero]; rfl
  have hof : f = oth n vs i k := by
    refine dvd_eq (xor_lt (hb.get 1) (mul_lt _ (hb.get 0))) (xor_lt (X_lt n i) (X_lt n k)) hf.2.2 (X_ne2 hn hi hk hik) ?_
    rw [← s0', ← s1', mul_adda, mul_addb]
    rw [Nat.xor_comm (mul e (X n i)) (mul f (X n k)), Nat.xor_assoc, ← Nat.xor_assoc (mul e (X n i)), Nat.xor_self, Nat.zero_xor, Nat.xor_comm]
  have hbe : e = byy n vs i k := by
    rw [byy, ← hof, ← s0', Nat.xor_assoc, Nat.xor_self, Nat.xor_zero]
  rw [explV_iff, ← hof, ← hbe]
  exact h.sum
theorem none_ok2 {n : Nat} {vs : List Nat} (hb : byt vs) (hv : vs.length = 6) (hn : n ≤ 255) (hz : vs ≠ List.replicate 6 0) (h1 : ∀ i < n, explV n [(i, vs.getD 0 0)] vs = false) (h2 : ∀ i k, i < k → k < n → explV n [(i, byy n vs i k), (k, oth n vs i k)] vs = false) (l : List (Nat × Nat)) : ¬ PatOk n vs l := by
  intro h
  match l, h with
  | [], h =>
    apply hz
    apply List.ext_getElem?
    intro j
    by_cases hj : j < 6
    · have := h.sum j hj
      rw [List.getD_eq_getElem?_getD, List.getElem?_eq_getElem (by omega)] at this
      rw [List.getElem?_eq_getElem (by omega), List.getElem?_replicate, if_pos hj]
      exact congrArg some this.symm
    · rw [List.getElem?_eq_none (by omega), List.getElem?_eq_none (by simp; omega)]
  | [(i, e)], h =>
    have he := h.mem (i, e) (by simp)
    simp only at he
    have s0 : e = vs.getD 0 0 := by
      rw [← h.sum 0 (by decide)]
      show _ = mul e (pw 2 ((n - 1 - i) * 0)) ^^^ 0
      rw [mul_one_pw he.2.2, Nat.xor_zero]
    have := h1 i he.1
    rw [← s0, explV_iff.2 h.sum] at this; cases this
  | [(i, e), (k, f)], h =>
    have he := h.mem (i, e) (by simp)
    have hf := h.mem (k, f) (by simp)
    have ha := h.asc
    simp at he hf ha
    rcases Nat.lt_trichotomy i k with h3 | h3 | h3
    · have := two_of2 hb hn he.1 hf.1 (by omega) h
      rw [h2 i k h3 hf.1] at this; cases this
    · exact ha h3
    · have := two_of2 hb hn hf.1 he.1 (by omega) h.swap
      rw [h2 k i h3 he.1] at this; cases this
  | _ :: _ :: _ :: _, h => have := h.len; simp at this
def wordR (s : List UInt8) : Value := match wordF (nb s) with
  | some w => .tuple ⟨[sV (w.map UInt8.ofNat), .bool true]⟩
  | none => .tuple ⟨[sV [], .bool false]⟩
theorem nb_back (s : List UInt8) : (nb s).map UInt8.ofNat = s := by
  rw [nb, List.map_map]
  conv => rhs; rw [← List.map_id s]
  refine List.map_congr_left fun x hx => ?_
  simp
theorem wordR_zero {s : List UInt8} (h : syn (nb s) = List.replicate 6 0) : wordR s = .tuple ⟨[sV s, .bool true]⟩ := by
  have : wordF (nb s) = some (nb s) := by rw [wordF, patF, if_pos h]; rfl
  simp only [wordR, this, nb_back]
theorem wordR_of {s : List UInt8} {l : List (Nat × Nat)} (hl : s.length ≤ 255) (h2 : l.length ≤ 2) (hm : ∀ p ∈ l, p.1 < s.length ∧ p.2 < 256) (h : explV s.length l (syn (nb s)) = true) : wordR s = .tuple ⟨[sV ((fixw (nb s) l).map UInt8.ofNat), .bool true]⟩ := by
  have hn := nb_len s
  have : wordF (nb s) = some (fixw (nb s) l) := wordF_of (nb_byt s) (by omega) (good_of (nb_byt s) h2 (by rw [hn]; exact hm) (by rw [hn]; exact explV_iff.1 h))
  simp only [wordR, this]
theorem wordR_no {s : List UInt8} (hl : s.length ≤ 255) (h : ∀ l, ¬ PatOk s.length (syn (nb s)) l) : wordR s = .tuple ⟨[sV [], .bool false]⟩ := by
  have hn := nb_len s
  have : wordF (nb s) = none := wordF_no (nb_byt s) (by omega) (by rw [hn]; exact h)
  simp only [wordR, this]
def zall (vs : List Nat) (j : Nat) : Bool := (List.range j).all fun i => vs.getD i 0 == 0
theorem zall_succ (vs : List Nat) (j : Nat) : zall vs (j + 1) = (zall vs j && (vs.getD j 0 == 0)) := by
  simp [zall, List.range_succ, List.all_append]
theorem zall_six {vs : List Nat} (hv : vs.length = 6) : zall vs 6 = true ↔ vs = List.replicate 6 0 := by
  constructor
  · intro h
    simp only [zall, List.all_eq_true, List.mem_range, beq_iff_eq] at h
    apply List.ext_getElem?
    intro j
    by_cases hj : j < 6
    · have := h j hj
      rw [List.getD_eq_getElem?_getD, List.getElem?_eq_getElem (by omega)] at this
      rw [List.getElem?_eq_getElem (by omega), List.getElem?_replicate, if_pos hj]
      exact congrArg some this
    · rw [List.getElem?_eq_none (by omega), List.getElem?_eq_none (by simp; omega)]
  · rintro rfl; rfl

theorem f92 (s : List UInt8) (hl : s.length ≤ 255) (h : View) (O : Hp) : GSpec Try.prog 92 [sV s] h O (Ret O (wordR s)) := by
  have hnl := nb_len s
  have hvl := syn_len (nb s)
  have hvb := syn_byt (nb_byt s)
  refine GSpec.enter (fn := Try.f92) Try.func92 rfl (by kernel_rfl) ?_
  repeat' (conv => whnf
           first
           | (with_reducible refine NextSt.mk ?_))
  refine LoopSt.fix [5, 6, 17, 18, 19, 20, 21, 22, 23, 24, 25, 26, 27] (fun ((j, B) : Nat × Buf) => [(5, .slice B.a j B.cap), (6, iN j)]) (fun (j, B) => B.hp 3 (((syn (nb s)).take j).map iN) ++ O) (fun (j, B) => j ≤ 6 ∧ B.ok 1 (((syn (nb s)).take j).map iN) j) (fun (j, B) => 6 - j) ((0, Buf.nil)) _ (Wk.refl _ _) (rfl) ?_ ?_ ?_
  · repeat' (first | exact True.intro | refine And.intro ?_ ?_ | rfl)
  · exact ⟨Nat.zero_le _, Buf.nil_ok 1⟩
  · rintro ⟨j, B⟩ d ⟨hj, hB⟩
    dsimp only at hj hB ⊢
    have hpj := pw_lt (a := 2) j
    by_cases hj6 : j < 6
    · have hsg := syn_get (nb s) hj6
      repeat' (conv => whnf
               first
               | ((with_reducible apply CallSt.rd (f := 150)); · (apply GSpec.cast (sp := f150 _ _ ?_ ?_ _ _); (· (repeat' (with_reducible rfl))); all_goals (first | with_reducible assumption | omega)))
               | ((with_reducible apply CallSt.rd (f := 151)); · (apply GSpec.cast (sp := f151 _ ?_ _ _); (· (repeat' (with_reducible rfl))); all_goals (omega)))
               | (with_reducible refine NextSt.mk ?_)
               | (with_reducible refine OnBB.tt ?_)
               | ((with_reducible apply NW.addN); (· with_reducible rfl); (· exact natL _); (· omega))
               | ((with_reducible apply Cmp.yes); · omega)
               | ((with_reducible refine AllocSt.mk ?_); intro _b _hb _hbO)
               | ((with_reducible apply AppSt.lit1 (g := iN) (z := .int .i64 0)); (· (repeat (first | with_reducible exact Loc.hd | with_reducible apply Loc.tl))); (· with_reducible assumption); (· (repeat (exact List.Mem.head _))); (· rfl); (· rfl); (· rfl); (· rfl); (· rfl); (· rfl); (· (show _ * 8 ≤ _; omega)); (· omega); intro _B _hB))
      · rw [← hsg, map_take_succ iN (by omega)] at _hB
        rw [← hsg, map_take_succ iN (by omega)]
        refine RoundFix.mk ((j + 1, _B)) ?_ ?_ _ rfl (Wk.drop (by (try dsimp only); (try simp only [List.cons_append, List.nil_append]); (repeat (first | with_reducible exact List.Sublist.refl _ | with_reducible apply List.Sublist.cons)))) ?_
        · dsimp only; omega
        · repeat' (first | exact True.intro | refine And.intro ?_ ?_ | rfl)
        · exact ⟨by omega, _hB⟩
    · have : j = 6 := by omega
      subst this
      rw [List.take_of_length_le (Nat.le_of_eq hvl)] at hB ⊢
      repeat' (conv => whnf
               first
               | (with_reducible refine NextSt.mk ?_)
               | (with_reducible refine OnBB.ff ?_)
               | ((with_reducible apply Cmp.no); · omega))
      refine LoopSt.fix [7, 8, 28, 29, 30, 31, 32, 33, 34, 35, 36, 37, 38, 39] (fun (j : Nat) => [(7, .bool (zall (syn (nb s)) j)), (8, iN j)]) (fun _ => _) (fun j => j ≤ 6) (fun j => 6 - j) (0) _ (Wk.refl _ _) (rfl) ?_ ?_ ?_
      · repeat' (first | exact True.intro | refine And.intro ?_ ?_ | rfl)
      · exact Nat.zero_le _
      · intro j d hj
        have hzs := zall_succ (syn (nb s)) j
        cases hz : zall (syn (nb s)) j
        · rw [hz, Bool.false_and] at hzs
          repeat' (conv => whnf
                   first
                   | (with_reducible refine NextSt.mk ?_)
                   | (with_reducible refine OnBB.tt ?_)
                   | (with_reducible refine OnBB.ff ?_)
                   | ((with_reducible apply NW.addN); (· with_reducible rfl); (· exact natL _); (· omega))
                   | ((with_reducible refine Cmp.mk ?_ ?_) <;> intro _hc))
          · refine RoundFix.mk (j + 1) ?_ ?_ _ rfl (Wk.drop (by (try dsimp only); (try simp only [List.cons_append, List.nil_append]); (repeat (with_reducible exact List.Sublist.refl _)))) ?_
            · omega
            · repeat' (first | exact True.intro | refine And.intro ?_ ?_ | exact congrArg Value.bool hzs.symm | rfl)
            · omega
          · have : j = 6 := by omega
            subst this
            have hne : syn (nb s) ≠ List.replicate 6 0 := fun e => by rw [(zall_six hvl).2 e] at hz; cases hz
            refine LoopSt.fix [9, 10, 42, 43, 44, 45, 46, 47, 48, 49, 50, 51, 52, 53, 54] (fun ((i, C) : Nat × Buf) => [(9, .slice C.a i C.cap), (10, iN i)]) (fun (i, C) => C.hp 3 (((List.range i).map (X s.length)).map iN) ++ (B.hp 3 ((syn (nb s)).map iN) ++ O)) (fun (i, C) => i ≤ s.length ∧ C.ok 1 (((List.range i).map (X s.length)).map iN) i) (fun (i, C) => s.length - i) ((0, Buf.nil)) _ (Wk.refl _ _) (rfl) ?_ ?_ ?_
            · repeat' (first | exact True.intro | refine And.intro ?_ ?_ | rfl)
            · exact ⟨Nat.zero_le _, Buf.nil_ok 1⟩
            · rintro ⟨i, C⟩ d ⟨hi, hC⟩
              dsimp only at hi hC ⊢
              by_cases hin : i < s.length
              · have hsn : (List.range i).map (X s.length) ++ [pw 2 (s.length - 1 - i)] = (List.range (i + 1)).map (X s.length) := by rw [List.range_succ, List.map_append]; rfl
                repeat' (conv => whnf
                         first
                         | ((with_reducible apply CallSt.rd (f := 151)); · (apply GSpec.cast (sp := f151 _ ?_ _ _); (· (repeat' (rfl))); all_goals (omega)))
                         | (with_reducible refine NextSt.mk ?_)
                         | (with_reducible refine OnBB.tt ?_)
                         | ((with_reducible apply NW.addN); (· with_reducible rfl); (· exact natL _); (· omega))
                         | ((with_reducible apply NW.subN); (· with_reducible rfl); (· first | with_reducible rfl | exact natL _); (· omega))
                         | ((with_reducible apply Cmp.yes); · omega)
                         | ((with_reducible refine AllocSt.mk ?_); intro _b _hb _hbO)
                         | ((with_reducible apply AppSt.lit1 (g := iN) (z := .int .i64 0)); (· (repeat (first | with_reducible exact Loc.hd | with_reducible apply Loc.tl))); (· with_reducible assumption); (· (repeat (exact List.Mem.head _))); (· rfl); (· rfl); (· rfl); (· rfl); (· rfl); (· rfl); (· (show _ * 8 ≤ _; omega)); (· omega); intro _B _hB))
                · rw [hsn] at _hB
                  rw [hsn]
                  refine RoundFix.mk ((i + 1, _B)) ?_ ?_ _ rfl (Wk.drop (by (try dsimp only); (try simp only [List.cons_append, List.nil_append]); (repeat (first | with_reducible exact List.Sublist.refl _ | with_reducible apply List.Sublist.cons)))) ?_
                  · dsimp only; omega
                  · repeat' (first | exact True.intro | refine And.intro ?_ ?_ | rfl)
                  · exact ⟨by omega, _hB⟩
              · have : i = s.length := by omega
                subst this
                have hxl : ((List.range s.length).map (X s.length)).length = s.length := by simp
                have hX : ∀ i < s.length, ((List.range s.length).map (X s.length)).getD i 0 = X s.length i := fun i hi => by
                  rw [List.getD_eq_getElem?_getD, List.getElem?_map, List.getElem?_range hi]; rfl
                have h0 := hvb.get 0
                have h01 := hvb.get 1
                repeat' (conv => whnf
                         first
                         | (with_reducible refine NextSt.mk ?_)
                         | (with_reducible refine OnBB.ff ?_)
                         | ((with_reducible apply Cmp.no); · omega))
                refine LoopSt.fix [2, 3, 11, 12, 13, 14, 55, 56, 57, 58, 59, 60, 61, 62, 63, 64, 65, 66, 67, 68, 69, 70, 71, 72, 73, 74, 75, 76, 77, 78, 79, 80, 81, 82, 83, 84, 85, 86, 87, 88, 89, 90, 91, 92, 93, 94, 95, 96, 97, 98, 99, 100, 101, 102, 103, 104, 105, 106, 107, 108, 109, 110, 111, 112, 113, 114, 115, 116, 117, 118, 119, 120, 121, 122, 123, 124, 125, 126, 127, 128, 129, 130, 131, 132] (fun (i : Nat) => [(11, iN i)]) (fun _ => _) (fun i => i ≤ s.length ∧ ∀ i' < i, explV s.length [(i', (syn (nb s)).getD 0 0)] (syn (nb s)) = false ∧ ∀ k, i' < k → k < s.length → explV s.length [(i', byy s.length (syn (nb s)) i' k), (k, oth s.length (syn (nb s)) i' k)] (syn (nb s)) = false) (fun i => s.length - i) (0) _ (Wk.refl _ _) (rfl) ?_ ?_ ?_
                · repeat' (first | exact True.intro | refine And.intro ?_ ?_ | rfl)
                · exact ⟨Nat.zero_le _, fun i hi => by omega⟩
                · rintro i d ⟨hi, hI⟩
                  by_cases hin : i < s.length
                  · have hXi := hX i hin
                    have b1 := X_lt s.length i
                    cases he : explV s.length [(i, (syn (nb s)).getD 0 0)] (syn (nb s))
                    · have he2 : agrV [(X s.length i, (syn (nb s)).getD 0 0)] (syn (nb s)) = false := by rw [← he, ← agr_expl]; rfl
                      repeat' (conv => whnf
                               first
                               | (((with_reducible apply LoadSt.rdN (xs := (List.range s.length).map (X s.length))); (· (repeat (first | (with_reducible apply Rd.appL; with_reducible apply Buf.rd; with_reducible assumption) | with_reducible apply Rd.appR))); (· (omega)); rw [hXi]))
                               | (((with_reducible refine DrawSt.walk2 [0, 1, 2, 3, 4, 6, 7, 8] 5 9 [10] mixed ?_ ?_); · decide +kernel))
                               | ((with_reducible refine And.intro ?_ ?_))
                               | ((with_reducible refine CallG.rd (f := 152) (X := .bool (agrV [(X s.length i, (syn (nb s)).getD 0 0)] (syn (nb s)))) ?_ ?_); (· exact f152 _ _ _ _ _ _ (syn (nb s)) [(X s.length i, (syn (nb s)).getD 0 0)] hvl (by simp) (fun x hx => by rw [List.mem_singleton.1 hx]; exact b1) (fun x hx => by rw [List.mem_singleton.1 hx]; exact h0) _ _ (by (repeat (first | (with_reducible apply Rd.appL; with_reducible apply Buf.rd; with_reducible assumption) | with_reducible apply Rd.cons | with_reducible apply Rd.appR))) (Rd.own0 (by (repeat (first | exact List.Mem.head _ | with_reducible apply List.mem_cons_of_mem)))) (Rd.own0 (by (repeat (first | exact List.Mem.head _ | with_reducible apply List.mem_cons_of_mem))))); rw [he2])
                               | (with_reducible refine NextSt.mk ?_)
                               | (with_reducible refine OnBB.tt ?_)
                               | (with_reducible refine OnBB.ff ?_)
                               | ((with_reducible apply NW.addN); (· with_reducible rfl); (· exact natL _); (· omega))
                               | ((with_reducible apply Cmp.yes); · omega)
                               | ((with_reducible apply LoadSt.rdN); (· (repeat (first | (with_reducible apply Rd.appL; with_reducible apply Buf.rd; with_reducible assumption) | with_reducible apply Rd.appR))); · (omega))
                               | ((with_reducible refine AllocSt.mk ?_); intro _b _hb _hbO)
                               | ((with_reducible apply IdxSl.buf1); (· with_reducible assumption); (· rfl); (· rfl); (· first | with_reducible rfl | exact natL _); · (omega)))
                      all_goals
                        refine LoopSt.fix [2, 3, 12, 13, 14, 79, 80, 81, 82, 83, 84, 85, 86, 87, 88, 89, 90, 91, 92, 93, 94, 95, 96, 97, 98, 99, 100, 101, 102, 103, 104, 105, 106, 107, 108, 109, 110, 111, 112, 113, 114, 115, 116, 117, 118, 119, 120, 121, 122, 123, 124, 125, 126, 127, 128, 129, 130, 131, 132] (fun (k : Nat) => [(12, iN k)]) (fun k => C.hp 3 (((List.range s.length).map (X s.length)).map iN) ++ (B.hp 3 ((syn (nb s)).map iN) ++ O)) (fun k => i < k ∧ k ≤ s.length ∧ ∀ k', i < k' → k' < k → explV s.length [(i, byy s.length (syn (nb s)) i k'), (k', oth s.length (syn (nb s)) i k')] (syn (nb s)) = false) (fun k => s.length - k) (i + 1) _ (Wk.drop (by (try dsimp only); (try simp only [List.cons_append, List.nil_append]); (repeat (first | with_reducible exact List.Sublist.refl _ | with_reducible apply List.Sublist.cons)))) (rfl) ?_ ?_ ?_
                        · repeat' (first | exact True.intro | refine And.intro ?_ ?_ | rfl)
                        · exact ⟨by omega, by omega, fun k h1 h2 => by omega⟩
                        · rintro k d ⟨hk1, hk2, hK⟩
                          by_cases hkn : k < s.length
                          · have hXk := hX k hkn
                            have b2 := X_lt s.length k
                            have hne2 := X_ne2 hl hin hkn (by omega)
                            have b4 := oth_lt (n := s.length) hvb i k
                            have b5 := byy_lt (n := s.length) hvb i k
                            have b6 : (syn (nb s)).getD 0 0 ^^^ oth s.length (syn (nb s)) i k < 256 := b5
                            have hq1 : byt [X s.length i, X s.length k] := fun x hx => by
                              rcases List.mem_cons.1 hx with rfl | hx
                              · exact b1
                              · rw [List.mem_singleton.1 hx]; exact b2
                            have hq2 : byt [byy s.length (syn (nb s)) i k, oth s.length (syn (nb s)) i k] := fun x hx => by
                              rcases List.mem_cons.1 hx with rfl | hx
                              · exact b5
                              · rw [List.mem_singleton.1 hx]; exact b4
                            have hs1 : nb (((nb s).set i ((nb s).getD i 0 ^^^ byy s.length (syn (nb s)) i k)).map UInt8.ofNat) = (nb s).set i ((nb s).getD i 0 ^^^ byy s.length (syn (nb s)) i k) := map_ofNat ((nb_byt s).set _ (xor_lt ((nb_byt s).get i) b5))
                            have hoth : mul ((syn (nb s)).getD 1 0 ^^^ mul ((syn (nb s)).getD 0 0) (X s.length i)) (inv (X s.length i ^^^ X s.length k)) = oth s.length (syn (nb s)) i k := rfl
                            cases he3 : explV s.length [(i, byy s.length (syn (nb s)) i k), (k, oth s.length (syn (nb s)) i k)] (syn (nb s))
                            · have he4 : agrV [(X s.length i, byy s.length (syn (nb s)) i k), (X s.length k, oth s.length (syn (nb s)) i k)] (syn (nb s)) = false := by rw [← he3, ← agr_expl]; rfl
                              repeat' (conv => whnf
                                       first
                                       | (((with_reducible apply LoadSt.rdN (xs := (List.range s.length).map (X s.length))); (· (repeat (first | (with_reducible apply Rd.appL; with_reducible apply Buf.rd; with_reducible assumption) | with_reducible apply Rd.appR))); (· (omega)); first | rw [hXi] | rw [hXk]))
                                       | (((with_reducible refine DrawSt.walk2 [0, 1, 2, 3, 4, 5, 6, 7, 8, 10, 11] 9 12 [13] mixed ?_ ?_); · decide +kernel))
                                       | ((with_reducible refine And.intro ?_ ?_))
                                       | ((with_reducible show Bits _ _ _ _ _); (rewrite [hoth]))
                                       | ((with_reducible refine CallG.rd (f := 152) (X := .bool (agrV [(X s.length i, byy s.length (syn (nb s)) i k), (X s.length k, oth s.length (syn (nb s)) i k)] (syn (nb s)))) ?_ ?_); (· exact f152 _ _ _ _ _ _ (syn (nb s)) [(X s.length i, byy s.length (syn (nb s)) i k), (X s.length k, oth s.length (syn (nb s)) i k)] hvl (by simp) hq1 hq2 _ _ (by (repeat (first | (with_reducible apply Rd.appL; with_reducible apply Buf.rd; with_reducible assumption) | with_reducible apply Rd.cons | with_reducible apply Rd.appR))) (Rd.own0 (by (repeat (first | exact List.Mem.head _ | with_reducible apply List.mem_cons_of_mem)))) (Rd.own0 (by (repeat (first | exact List.Mem.head _ | with_reducible apply List.mem_cons_of_mem))))); rw [he4])
                                       | ((with_reducible refine DrawSt.walk [0, 1, 2, 3, 4, 5, 6, 7, 8, 9, 12, 13, 14, 15, 16, 17, 18, 19, 20, 10, 11, 21, 22, 23] mixed ?_ ?_); · decide +kernel)
                                       | ((with_reducible apply CallG.rd (f := 98)); · (apply GSpec.cast (sp := f98 _ _ ?_ ?_ _ _); (· (repeat' (first | with_reducible rfl | rfl))); all_goals (first | with_reducible assumption | ((repeat (first | with_reducible assumption | with_reducible apply xor_lt | with_reducible apply mul_lt | with_reducible exact inv_lt _)); done))))
                                       | ((with_reducible apply CallG.rd (f := 99)); · (apply GSpec.cast (sp := f99 _ ?_ ?_ _ _); (· (repeat' (rfl))); all_goals (first | with_reducible assumption | ((repeat (first | with_reducible assumption | with_reducible apply xor_lt)); done))))
                                       | (with_reducible refine NextSt.mk ?_)
                                       | (with_reducible refine OnBB.tt ?_)
                                       | (with_reducible refine OnBB.ff ?_)
                                       | ((with_reducible apply NW.addN); (· with_reducible rfl); (· exact natL _); (· omega))
                                       | ((with_reducible apply Cmp.yes); · omega)
                                       | ((with_reducible apply LoadSt.rdN); (· (repeat (first | (with_reducible apply Rd.appL; with_reducible apply Buf.rd; with_reducible assumption) | with_reducible apply Rd.appR))); · (omega))
                                       | ((with_reducible refine AllocSt.mk ?_); intro _b _hb _hbO)
                                       | ((with_reducible apply Bits.xorN); (· with_reducible rfl); (· with_reducible rfl); (· (first | omega | (refine ⟨?_, ?_⟩ <;> (first | omega | exact Nat.le_trans (Nat.le_of_lt (show _ < 256 by exact mul_lt _ (by assumption))) (by decide))))))
                                       | ((with_reducible apply IdxSl.buf1); (· with_reducible assumption); (· rfl); (· rfl); (· first | with_reducible rfl | exact natL _); · (omega)))
                              all_goals
                                refine RoundFix.mk (k + 1) ?_ ?_ _ rfl (Wk.drop (by (try dsimp only); (try simp only [List.cons_append, List.nil_append]); (repeat (first | with_reducible exact List.Sublist.refl _ | with_reducible apply List.Sublist.cons)))) ?_
                                · omega
                                · repeat' (first | exact True.intro | refine And.intro ?_ ?_ | rfl)
                                · refine ⟨by omega, by omega, fun k' h1 h2 => ?_⟩
                                  by_cases e : k' = k
                                  · rw [e]; exact he3
                                  · exact hK k' h1 (by omega)
                            · have he4 : agrV [(X s.length i, byy s.length (syn (nb s)) i k), (X s.length k, oth s.length (syn (nb s)) i k)] (syn (nb s)) = true := by rw [← he3, ← agr_expl]; rfl
                              rw [wordR_of hl (by simp) (fun p hp => by
                                rcases List.mem_cons.1 hp with rfl | hp
                                · exact ⟨hin, b5⟩
                                · rw [List.mem_singleton.1 hp]; exact ⟨hkn, b4⟩) he3]
                              repeat' (conv => whnf
                                       first
                                       | (((with_reducible apply LoadSt.rdN (xs := (List.range s.length).map (X s.length))); (· (repeat (first | (with_reducible apply Rd.appL; with_reducible apply Buf.rd; with_reducible assumption) | with_reducible apply Rd.appR))); (· (omega)); first | rw [hXi] | rw [hXk]))
                                       | (((with_reducible refine DrawSt.walk2 [0, 1, 2, 3, 4, 5, 6, 7, 8, 10, 11] 9 12 [13] mixed ?_ ?_); · decide +kernel))
                                       | ((with_reducible refine And.intro ?_ ?_))
                                       | ((with_reducible show Bits _ _ _ _ _); (rewrite [hoth]))
                                       | ((with_reducible refine CallG.rd (f := 152) (X := .bool (agrV [(X s.length i, byy s.length (syn (nb s)) i k), (X s.length k, oth s.length (syn (nb s)) i k)] (syn (nb s)))) ?_ ?_); (· exact f152 _ _ _ _ _ _ (syn (nb s)) [(X s.length i, byy s.length (syn (nb s)) i k), (X s.length k, oth s.length (syn (nb s)) i k)] hvl (by simp) hq1 hq2 _ _ (by (repeat (first | (with_reducible apply Rd.appL; with_reducible apply Buf.rd; with_reducible assumption) | with_reducible apply Rd.cons | with_reducible apply Rd.appR))) (Rd.own0 (by (repeat (first | exact List.Mem.head _ | with_reducible apply List.mem_cons_of_mem)))) (Rd.own0 (by (repeat (first | exact List.Mem.head _ | with_reducible apply List.mem_cons_of_mem))))); rw [he4])
                                       | ((with_reducible refine CallSt.rd (f := 153) (args := [sV s, _, _]) (X := sV (((nb s).set i ((nb s).getD i 0 ^^^ byy s.length (syn (nb s)) i k)).map UInt8.ofNat)) ?_ ?_); (· exact f153 s i _ (by omega) hin b5 _ _))
                                       | ((with_reducible refine CallSt.rd (f := 153) (args := [sV (List.map _ _), _, _]) (X := sV (((nb (((nb s).set i ((nb s).getD i 0 ^^^ byy s.length (syn (nb s)) i k)).map UInt8.ofNat)).set k ((nb (((nb s).set i ((nb s).getD i 0 ^^^ byy s.length (syn (nb s)) i k)).map UInt8.ofNat)).getD k 0 ^^^ oth s.length (syn (nb s)) i k)).map UInt8.ofNat)) ?_ ?_); (· exact f153 _ k _ (by rw [List.length_map, List.length_set]; omega) (by rw [List.length_map, List.length_set]; omega) b4 _ _); rw [hs1])
                                       | ((with_reducible refine DrawSt.walk [0, 1, 2, 3, 4, 5, 6, 7, 8, 9, 12, 13, 14, 15, 16, 17, 18, 19, 20, 10, 11, 21, 22, 23] mixed ?_ ?_); · decide +kernel)
                                       | ((with_reducible apply CallG.rd (f := 98)); · (apply GSpec.cast (sp := f98 _ _ ?_ ?_ _ _); (· (repeat' (first | with_reducible rfl | rfl))); all_goals (first | with_reducible assumption | ((repeat (first | with_reducible assumption | with_reducible apply xor_lt | with_reducible apply mul_lt | with_reducible exact inv_lt _)); done))))
                                       | ((with_reducible apply CallG.rd (f := 99)); · (apply GSpec.cast (sp := f99 _ ?_ ?_ _ _); (· (repeat' (rfl))); all_goals (first | with_reducible assumption | ((repeat (first | with_reducible assumption | with_reducible apply xor_lt)); done))))
                                       | (with_reducible refine NextSt.mk ?_)
                                       | (with_reducible refine OnBB.tt ?_)
                                       | ((with_reducible apply Cmp.yes); · omega)
                                       | ((with_reducible apply LoadSt.rdN); (· (repeat (first | (with_reducible apply Rd.appL; with_reducible apply Buf.rd; with_reducible assumption) | with_reducible apply Rd.appR))); · (omega))
                                       | ((with_reducible refine AllocSt.mk ?_); intro _b _hb _hbO)
                                       | ((with_reducible apply Bits.xorN); (· with_reducible rfl); (· with_reducible rfl); (· (first | omega | (refine ⟨?_, ?_⟩ <;> (first | omega | exact Nat.le_trans (Nat.le_of_lt (show _ < 256 by exact mul_lt _ (by assumption))) (by decide))))))
                                       | ((with_reducible apply IdxSl.buf1); (· with_reducible assumption); (· rfl); (· rfl); (· first | with_reducible rfl | exact natL _); · (omega)))
                              all_goals
                                conv => whnf
                                refine FinSt.ret (by (try dsimp only); (try simp only [List.cons_append, List.nil_append]); (repeat (first | with_reducible exact List.Sublist.refl _ | with_reducible apply List.Sublist.cons | with_reducible apply sub_skip))) ?_
                                simp only [fixw]
                          · repeat' (conv => whnf
                                     first
                                     | (with_reducible refine NextSt.mk ?_)
                                     | (with_reducible refine OnBB.ff ?_)
                                     | ((with_reducible apply NW.addN); (· with_reducible rfl); (· exact natL _); (· omega))
                                     | ((with_reducible apply Cmp.no); · omega))
                            refine RoundFix.mk (i + 1) ?_ ?_ _ rfl (Wk.drop (by (try dsimp only); (try simp only [List.cons_append, List.nil_append]); (repeat (with_reducible exact List.Sublist.refl _)))) ?_
                            · omega
                            · repeat' (first | exact True.intro | refine And.intro ?_ ?_ | rfl)
                            · refine ⟨by omega, fun i' hi' => ?_⟩
                              by_cases e : i' = i
                              · rw [e]; exact ⟨he, fun k' h1 h2 => hK k' h1 (by omega)⟩
                              · exact hI i' (by omega)
                    · have he2 : agrV [(X s.length i, (syn (nb s)).getD 0 0)] (syn (nb s)) = true := by rw [← he, ← agr_expl]; rfl
                      rw [wordR_of hl (by simp) (fun p hp => by rw [List.mem_singleton.1 hp]; exact ⟨hin, h0⟩) he]
                      repeat' (conv => whnf
                               first
                               | (((with_reducible apply LoadSt.rdN (xs := (List.range s.length).map (X s.length))); (· (repeat (first | (with_reducible apply Rd.appL; with_reducible apply Buf.rd; with_reducible assumption) | with_reducible apply Rd.cons | with_reducible apply Rd.appR))); (· (omega)); rw [hXi]))
                               | (((with_reducible refine DrawSt.walk2 [0, 1, 2, 3, 4, 6, 7, 8] 5 9 [10] mixed ?_ ?_); · decide +kernel))
                               | ((with_reducible refine And.intro ?_ ?_))
                               | ((with_reducible refine CallG.rd (f := 152) (X := .bool (agrV [(X s.length i, (syn (nb s)).getD 0 0)] (syn (nb s)))) ?_ ?_); (· exact f152 _ _ _ _ _ _ (syn (nb s)) [(X s.length i, (syn (nb s)).getD 0 0)] hvl (by simp) (fun x hx => by rw [List.mem_singleton.1 hx]; exact b1) (fun x hx => by rw [List.mem_singleton.1 hx]; exact h0) _ _ (by (repeat (first | (with_reducible apply Rd.appL; with_reducible apply Buf.rd; with_reducible assumption) | with_reducible apply Rd.cons | with_reducible apply Rd.appR))) (Rd.own0 (by (repeat (first | exact List.Mem.head _ | with_reducible apply List.mem_cons_of_mem)))) (Rd.own0 (by (repeat (first | exact List.Mem.head _ | with_reducible apply List.mem_cons_of_mem))))); rw [he2])
                               | ((with_reducible refine CallSt.rd (f := 153) (X := sV (((nb s).set i ((nb s).getD i 0 ^^^ (syn (nb s)).getD 0 0)).map UInt8.ofNat)) ?_ ?_); (· exact f153 s i _ (by omega) hin h0 _ _))
                               | (with_reducible refine NextSt.mk ?_)
                               | (with_reducible refine OnBB.tt ?_)
                               | ((with_reducible apply Cmp.yes); · omega)
                               | ((with_reducible apply LoadSt.rdN); (· (repeat (first | (with_reducible apply Rd.appL; with_reducible apply Buf.rd; with_reducible assumption) | with_reducible apply Rd.cons | with_reducible apply Rd.appR))); · (omega))
                               | ((with_reducible refine AllocSt.mk ?_); intro _b _hb _hbO)
                               | ((with_reducible apply IdxSl.buf1); (· with_reducible assumption); (· rfl); (· rfl); (· first | with_reducible rfl | exact natL _); · (omega)))
                      all_goals
                        conv => whnf
                        refine FinSt.ret (by (try dsimp only); (try simp only [List.cons_append, List.nil_append]); (repeat (first | with_reducible exact List.Sublist.refl _ | with_reducible apply List.Sublist.cons | with_reducible apply sub_skip))) ?_
                        simp only [fixw]
                  · rw [wordR_no hl (none_ok2 hvb hvl hl hne (fun i hi => (hI i (by omega)).1) fun i k h1 h2 => (hI i (by omega)).2 k h1 h2)]
                    repeat' (conv => whnf
                             first
                             | (with_reducible refine NextSt.mk ?_)
                             | (with_reducible refine OnBB.ff ?_)
                             | ((with_reducible apply Cmp.no); · omega))
                    conv => whnf
                    refine FinSt.ret (by (try dsimp only); (try simp only [List.cons_append, List.nil_append]); (repeat (first | with_reducible exact List.Sublist.refl _ | with_reducible apply sub_skip))) ?_
                    rfl
        · rw [hz, Bool.true_and] at hzs
          repeat' (conv => whnf
                   first
                   | (with_reducible refine NextSt.mk ?_)
                   | (with_reducible refine OnBB.tt ?_)
                   | (with_reducible refine OnBB.ff ?_)
                   | ((with_reducible apply NW.addN); (· with_reducible rfl); (· exact natL _); (· omega))
                   | ((with_reducible apply LoadSt.rdN); (· (repeat ((with_reducible apply Rd.appL; with_reducible apply Buf.rd; with_reducible assumption)))); · (omega))
                   | ((with_reducible apply IdxSl.buf1); (· with_reducible assumption); (· rfl); (· rfl); (· with_reducible rfl); · (omega))
                   | ((with_reducible refine Cmp.mk ?_ ?_) <;> intro _hc))
          · refine RoundFix.mk (j + 1) ?_ ?_ _ rfl (Wk.drop (by (try dsimp only); (try simp only [List.cons_append, List.nil_append]); (repeat (with_reducible exact List.Sublist.refl _)))) ?_
            · omega
            · repeat' (first | exact True.intro | refine And.intro ?_ ?_ | exact congrArg Value.bool (by rw [hzs, eq_comm, beq_iff_eq]; omega) | rfl)
            · omega
          · refine RoundFix.mk (j + 1) ?_ ?_ _ rfl (Wk.drop (by (try dsimp only); (try simp only [List.cons_append, List.nil_append]); (repeat (with_reducible exact List.Sublist.refl _)))) ?_
            · omega
            · repeat' (first | exact True.intro | refine And.intro ?_ ?_ | exact congrArg Value.bool (by rw [hzs, eq_comm, beq_eq_false_iff_ne]; omega) | rfl)
            · omega
          · have : j = 6 := by omega
            subst this
            rw [wordR_zero ((zall_six hvl).1 hz)]
            conv => whnf
            refine FinSt.ret (by (try dsimp only); (try simp only [List.cons_append, List.nil_append]); (repeat (first | with_reducible exact List.Sublist.refl _ | with_reducible apply sub_skip))) ?_
            rfl
end Go.Proofs.Ytlbmlimaobkhpaa
/- Decode of the reference. -/
namespace Go.Proofs.Ytlbmlimaobkhpaa
open Go Go.Gv
set_option maxRecDepth 100000
set_option maxHeartbeats 4000000
set_option linter.unusedSimpArgs false
set_option linter.unusedVariables false

theorem f21 (s : List UInt8) (hs : s.length < 1000000) (h : View) (O : Hp) : GSpec Try.prog 21 [sV s] h O (Ret O (decR (decV s))) := by
  have hnl := nb_len s
  by_cases hl : 10 ≤ s.length ∧ s.length ≤ 42
  · cases hw : wordF (nb s) with
    | none =>
      have hwR : wordR s = .tuple ⟨[sV [], .bool false]⟩ := by simp only [wordR, hw]
      rw [decV_none hw]
      refine GSpec.enter (fn := Try.f21) Try.func21 rfl (by kernel_rfl) ?_
      repeat' (conv => whnf
               first
               | ((with_reducible refine CallSt.rd (f := 92) (X := wordR s) ?_ ?_); (· exact f92 s (by omega) _ _); rw [hwR])
               | (with_reducible refine NextSt.mk ?_)
               | (with_reducible refine OnBB.tt ?_)
               | (with_reducible refine OnBB.ff ?_)
               | ((with_reducible apply Cmp.no); · omega)
               | ((with_reducible apply LoadSt.boxAgg); · (repeat (exact List.Mem.head _)))
               | ((with_reducible refine AllocSt.mk ?_); intro _b _hb _hbO)
               | ((with_reducible apply StoreSt.box); (· (repeat (exact Upd.hd))); (· rfl); (· rfl); (· rfl)))
      conv => whnf
      refine FinSt.ret (by (try dsimp only); (try simp only [List.cons_append, List.nil_append]); (repeat (first | with_reducible exact List.Sublist.refl _ | with_reducible apply List.Sublist.cons))) ?_
      rfl
    | some w =>
      have hwR : wordR s = .tuple ⟨[sV (w.map UInt8.ofNat), .bool true]⟩ := by simp only [wordR, hw]
      have hgood := wordF_good (nb_byt s) hw
      have hnw : nb (w.map UInt8.ofNat) = w := map_ofNat hgood.byt
      have hlm : (w.map UInt8.ofNat).length = w.length := List.length_map _
      have hwl : w.length = s.length := by rw [hgood.len, hnl]
      have b0 := hgood.byt.get 0
      have b1 := hgood.byt.get 1
      have b2 := hgood.byt.get 2
      have b3 := hgood.byt.get 3
      have hbl : (frOf w).body.length < 1000000 := by simp [frOf]; omega
      have hap : apartV (w.map UInt8.ofNat) s = (ap w (nb s), true) := by rw [apartV, if_pos (by omega), hnw]
      by_cases hf : frOk (frOf w)
      · rw [decV_ok hl hw hf]
        have hch := chk_ok hf
        refine GSpec.enter (fn := Try.f21) Try.func21 rfl (by kernel_rfl) ?_
        repeat' (conv => whnf
                 first
                 | ((with_reducible refine CallSt.rd (f := 92) (X := wordR s) ?_ ?_); (· exact f92 s (by omega) _ _); rw [hwR])
                 | ((with_reducible apply StrIdx.m); (· exact natL _); (· omega); rw [hnw])
                 | ((with_reducible apply StrSl.lohi); (· exact natL _); (· with_reducible rfl); (· omega); (· omega); rw [← List.map_take, ← List.map_drop, hlm])
                 | ((with_reducible refine CallSt.rd (f := 23) (X := .int .i64 (chkF (frOf w))) ?_ ?_); (· exact f23 (frOf w) hbl _ _); rw [hch])
                 | ((with_reducible refine CallSt.rd (f := 32) (X := nbV (apartV (w.map UInt8.ofNat) s)) ?_ ?_); (· exact f32 _ _ (by omega) hs _ _); rw [hap])
                 | ((with_reducible refine DrawSt.walk [0, 1, 2, 3, 4, 5, 6, 7, 8, 9, 10, 11, 12, 13, 14, 15, 16, 17, 18, 19] mixed ?_ ?_); · decide +kernel)
                 | (with_reducible refine NextSt.mk ?_)
                 | (with_reducible refine OnBB.tt ?_)
                 | (with_reducible refine OnBB.ff ?_)
                 | ((with_reducible apply NW.subN); (· with_reducible rfl); (· exact natL _); (· omega))
                 | ((with_reducible apply NW.i64N); (· with_reducible rfl); (· omega))
                 | ((with_reducible apply Cmp.no); · omega)
                 | ((with_reducible apply LoadSt.boxAgg); · (repeat (first | exact List.Mem.head _ | with_reducible apply List.mem_cons_of_mem)))
                 | ((with_reducible refine AllocSt.mk ?_); intro _b _hb _hbO)
                 | ((with_reducible apply StoreSt.box); (· (repeat (first | exact Upd.hd | apply Upd.tl))); (· rfl); (· rfl); (· rfl)))
        conv => whnf
        refine FinSt.ret (by (try dsimp only); (try simp only [List.cons_append, List.nil_append]); (repeat (first | with_reducible exact List.Sublist.refl _ | with_reducible apply List.Sublist.cons))) ?_
        rfl
      · rw [decV_no hw hf]
        have hch := chk_no hf
        refine GSpec.enter (fn := Try.f21) Try.func21 rfl (by kernel_rfl) ?_
        repeat' (conv => whnf
                 first
                 | ((with_reducible refine CallSt.rd (f := 92) (X := wordR s) ?_ ?_); (· exact f92 s (by omega) _ _); rw [hwR])
                 | ((with_reducible apply StrIdx.m); (· exact natL _); (· omega); rw [hnw])
                 | ((with_reducible apply StrSl.lohi); (· exact natL _); (· with_reducible rfl); (· omega); (· omega); rw [← List.map_take, ← List.map_drop, hlm])
                 | ((with_reducible refine CallSt.rd (f := 23) (X := .int .i64 (chkF (frOf w))) ?_ ?_); (· exact f23 (frOf w) hbl _ _); rw [hch])
                 | ((with_reducible refine DrawSt.walk [0, 1, 2, 3, 4, 5, 6, 7, 8, 9, 10, 11, 12, 13, 14, 15, 16, 17, 18, 19] mixed ?_ ?_); · decide +kernel)
                 | (with_reducible refine NextSt.mk ?_)
                 | (with_reducible refine OnBB.tt ?_)
                 | (with_reducible refine OnBB.ff ?_)
                 | ((with_reducible apply NW.subN); (· with_reducible rfl); (· exact natL _); (· omega))
                 | ((with_reducible apply NW.i64N); (· with_reducible rfl); (· omega))
                 | ((with_reducible apply Cmp.yes); · omega)
                 | ((with_reducible apply Cmp.no); · omega)
                 | ((with_reducible apply LoadSt.boxAgg); · (repeat (first | exact List.Mem.head _ | with_reducible apply List.mem_cons_of_mem)))
                 | ((with_reducible refine AllocSt.mk ?_); intro _b _hb _hbO)
                 | ((with_reducible apply StoreSt.box); (· (repeat (first | exact Upd.hd | apply Upd.tl))); (· rfl); (· rfl); (· rfl)))
        conv => whnf
        refine FinSt.ret (by (try dsimp only); (try simp only [List.cons_append, List.nil_append]); (repeat (first | with_reducible exact List.Sublist.refl _ | with_reducible apply List.Sublist.cons))) ?_
        rfl
  · rw [decV_bad hl]
    refine GSpec.enter (fn := Try.f21) Try.func21 rfl (by kernel_rfl) ?_
    repeat' (conv => whnf
             first
             | (with_reducible refine NextSt.mk ?_)
             | (with_reducible refine OnBB.tt ?_)
             | (with_reducible refine OnBB.ff ?_)
             | ((with_reducible apply Cmp.yes); · omega)
             | ((with_reducible apply LoadSt.boxAgg); · (repeat (exact List.Mem.head _)))
             | ((with_reducible refine AllocSt.mk ?_); intro _b _hb _hbO)
             | ((with_reducible apply StoreSt.box); (· (repeat (exact Upd.hd))); (· rfl); (· rfl); (· rfl))
             | ((with_reducible refine Cmp.mk ?_ ?_) <;> intro _hc))
    · conv => whnf
      refine FinSt.ret (by (try dsimp only); (try simp only [List.cons_append, List.nil_append]); (repeat (first | with_reducible exact List.Sublist.refl _ | with_reducible apply List.Sublist.cons))) ?_
      rfl
    · conv => whnf
      refine FinSt.ret (by (try dsimp only); (try simp only [List.cons_append, List.nil_append]); (repeat (first | with_reducible exact List.Sublist.refl _ | with_reducible apply List.Sublist.cons))) ?_
      rfl
end Go.Proofs.Ytlbmlimaobkhpaa
