/- Functions of the program that compute: field, codes, frames. -/
import Derived.KernelRfl
import Derived.Test.YtlbmlimaobkhpaaGb
import Derived.Test.YtlbmlimaobkhpaaProg
set_option linter.unusedVariables false
set_option linter.unusedSimpArgs false
set_option linter.unusedSectionVars false
/- The field of 256 elements: products as the program and as the reference compute them. -/
namespace Go.Proofs.Ytlbmlimaobkhpaa
theorem xor_lt {a b : Nat} (h : a < 256) (k : b < 256) : a ^^^ b < 256 := Nat.xor_lt_two_pow (n := 8) h k
/-- x, if the bit is there. -/
def bt (b i x : Nat) : Nat := if b / 2 ^ i % 2 = 1 then x else 0
theorem xor_swap (a b c d : Nat) : (a ^^^ b) ^^^ (c ^^^ d) = (a ^^^ c) ^^^ (b ^^^ d) := by
  rw [Nat.xor_assoc, Nat.xor_assoc, ← Nat.xor_assoc b c d, Nat.xor_comm b c, Nat.xor_assoc c b d]
theorem bt_xor (a b i x : Nat) : bt (a ^^^ b) i x = bt a i x ^^^ bt b i x := by
  have h := Nat.testBit_xor a b i
  simp only [Nat.testBit_eq_decide_div_mod_eq] at h
  unfold bt
  by_cases h1 : a / 2 ^ i % 2 = 1 <;> by_cases h2 : b / 2 ^ i % 2 = 1 <;> simp [h1, h2] at h ⊢ <;> omega
theorem bt_add (a i x y : Nat) : bt a i (x ^^^ y) = bt a i x ^^^ bt a i y := by unfold bt; split <;> simp
theorem bt_lt {a i x n : Nat} (h : x < n) : bt a i x < n := by unfold bt; split <;> omega
theorem xor_shl (a b i : Nat) : (a ^^^ b) * 2 ^ i = a * 2 ^ i ^^^ b * 2 ^ i := by
  have := Nat.shiftLeft_xor_distrib (i := i) (a := a) (b := b)
  simpa [Nat.shiftLeft_eq] using this
/-- Twice an element. -/
def xt (a : Nat) : Nat := a * 2 ^ 1 ^^^ bt a 7 285
theorem xt_lt {a : Nat} (h : a < 256) : xt a < 256 := by
  have h1 : ∀ x < 256, xt x < 256 := by decide +kernel
  exact h1 a h
theorem xt_xor (a b : Nat) : xt (a ^^^ b) = xt a ^^^ xt b := by
  unfold xt; rw [xor_shl, bt_xor, xor_swap]
/-- The product as the program computes it. -/
def tms : Nat → Nat → Nat → Nat → Nat
  | 0, _, _, c => c
  | n + 1, a, b, c => tms n (xt a) (b / 2) (c ^^^ bt b 0 a)
def mul (a b : Nat) : Nat := tms 8 a b 0
theorem tms_zero : ∀ (n a c : Nat), tms n a 0 c = c
  | 0, _, _ => rfl
  | n + 1, a, c => by rw [tms, Nat.zero_div, tms_zero n]; simp [bt]
theorem tms_lt : ∀ (n a b c : Nat), a < 256 → c < 256 → tms n a b c < 256
  | 0, _, _, _, _, h => h
  | n + 1, a, b, c, ha, hc => by
    unfold tms
    exact tms_lt n _ _ _ (xt_lt ha) (xor_lt hc (bt_lt ha))
theorem mul_lt {a : Nat} (b : Nat) (h : a < 256) : mul a b < 256 := tms_lt 8 a b 0 h (by decide)
theorem tms_adda : ∀ (n a a' b c c' : Nat), tms n (a ^^^ a') b (c ^^^ c') = tms n a b c ^^^ tms n a' b c'
  | 0, _, _, _, _, _ => rfl
  | n + 1, a, a', b, c, c' => by simp only [tms]; rw [xt_xor, bt_add, xor_swap, tms_adda n]
theorem xor_div2 (a b : Nat) : (a ^^^ b) / 2 = a / 2 ^^^ b / 2 := by
  have := Nat.shiftRight_xor_distrib (i := 1) (a := a) (b := b)
  simpa [Nat.shiftRight_eq_div_pow] using this
theorem tms_addb : ∀ (n a b b' c c' : Nat), tms n a (b ^^^ b') (c ^^^ c') = tms n a b c ^^^ tms n a b' c'
  | 0, _, _, _, _, _ => rfl
  | n + 1, a, b, b', c, c' => by simp only [tms]; rw [bt_xor, xor_swap, xor_div2, tms_addb n]
theorem mul_adda (a a' b : Nat) : mul (a ^^^ a') b = mul a b ^^^ mul a' b := tms_adda 8 a a' b 0 0
theorem mul_addb (a b b' : Nat) : mul a (b ^^^ b') = mul a b ^^^ mul a b' := tms_addb 8 a b b' 0 0
/-- A power as the program computes it. -/
def pw (a : Nat) : Nat → Nat
  | 0 => 1
  | n + 1 => mul (pw a n) a
theorem pw_lt {a : Nat} : ∀ n, pw a n < 256
  | 0 => by show 1 < 256; decide
  | n + 1 => mul_lt _ (pw_lt n)
def inv (a : Nat) : Nat := pw a 254
theorem inv_lt (a : Nat) : inv a < 256 := pw_lt 254

/-! ### the reference -/
/-- The product of polynomials. -/
def rt1 (a b : Nat) : Nat → Nat
  | 0 => 0
  | i + 1 => rt1 a b i ^^^ bt b i (a * 2 ^ i)
/-- Its remainder. -/
def rt2 (n : Nat) : Nat → Nat
  | 0 => n
  | k + 1 => rt2 n k ^^^ bt (rt2 n k) (14 - k) (285 * 2 ^ (6 - k))
def rmul (a b : Nat) : Nat := rt2 (rt1 a b 8) 7
theorem rt1_lt {a : Nat} (b : Nat) (ha : a < 256) : ∀ i, i ≤ 8 → rt1 a b i < 32768
  | 0, _ => by show 0 < 32768; decide
  | i + 1, h => by
    have h1 := rt1_lt b ha i (by omega)
    unfold rt1
    refine Nat.xor_lt_two_pow (n := 15) h1 (bt_lt ?_)
    have h2 : a * 2 ^ i ≤ a * 2 ^ 7 := Nat.mul_le_mul_left _ (Nat.pow_le_pow_right (by omega) (by omega))
    omega
theorem rt2_lt {n : Nat} (hn : n < 32768) : ∀ k, rt2 n k < 32768
  | 0 => hn
  | k + 1 => by
    have h1 := rt2_lt hn k
    unfold rt2
    refine Nat.xor_lt_two_pow (n := 15) h1 (bt_lt ?_)
    have h2 : 285 * 2 ^ (6 - k) ≤ 285 * 2 ^ 6 := Nat.mul_le_mul_left _ (Nat.pow_le_pow_right (by omega) (by omega))
    omega
theorem rt1_adda (a a' b : Nat) : ∀ i, rt1 (a ^^^ a') b i = rt1 a b i ^^^ rt1 a' b i
  | 0 => by simp [rt1]
  | i + 1 => by simp only [rt1]; rw [rt1_adda a a' b i, xor_shl, bt_add, xor_swap]
theorem rt1_addb (a b b' : Nat) : ∀ i, rt1 a (b ^^^ b') i = rt1 a b i ^^^ rt1 a b' i
  | 0 => by simp [rt1]
  | i + 1 => by simp only [rt1]; rw [rt1_addb a b b' i, bt_xor, xor_swap]
theorem rt2_add (n m : Nat) : ∀ k, rt2 (n ^^^ m) k = rt2 n k ^^^ rt2 m k
  | 0 => by simp [rt2]
  | k + 1 => by simp only [rt2]; rw [rt2_add n m k, bt_xor, xor_swap]

/-- What is additive is known by its values at the powers of 2. -/
theorem by_bits {f g : Nat → Nat} (hf : ∀ a b, f (a ^^^ b) = f a ^^^ f b) (hg : ∀ a b, g (a ^^^ b) = g a ^^^ g b) (h : ∀ i < 8, f (2 ^ i) = g (2 ^ i)) : ∀ x < 256, f x = g x := by
  have h0 : ∀ {k : Nat → Nat}, (∀ a b, k (a ^^^ b) = k a ^^^ k b) → k 0 = 0 := fun {k} hk => by
    have := hk 0 0
    simpa using this
  have hs : ∀ n < 8, ∀ y < 2 ^ n, 2 ^ n + y = 2 ^ n ^^^ y := by decide +kernel
  have main : ∀ n ≤ 8, ∀ x < 2 ^ n, f x = g x := by
    intro n
    induction n with
    | zero => intro _ x hx; have : x = 0 := by omega
              subst this; rw [h0 hf, h0 hg]
    | succ n ih =>
      intro hn x hx
      by_cases h1 : x < 2 ^ n
      · exact ih (by omega) x h1
      · obtain ⟨y, rfl⟩ : ∃ y, x = 2 ^ n + y := ⟨x - 2 ^ n, by omega⟩
        have hy : y < 2 ^ n := by rw [Nat.pow_succ] at hx; omega
        rw [hs n (by omega) y hy, hf, hg, ih (by omega) y hy, h n (by omega)]
  exact main 8 (Nat.le_refl _)
theorem rmul_eq {a b : Nat} (ha : a < 256) (hb : b < 256) : rmul a b = mul a b := by
  refine by_bits (f := fun b => rmul a b) (g := fun b => mul a b) (fun x y => ?_) (fun x y => mul_addb a x y) (fun i hi => ?_) b hb
  · simp only [rmul]; rw [rt1_addb, rt2_add]
  · refine by_bits (f := fun a => rmul a (2 ^ i)) (g := fun a => mul a (2 ^ i)) (fun x y => ?_) (fun x y => mul_adda x y _) (fun j hj => ?_) a ha
    · simp only [rmul]; rw [rt1_adda, rt2_add]
    · have : ∀ i < 8, ∀ j < 8, rmul (2 ^ j) (2 ^ i) = mul (2 ^ j) (2 ^ i) := by decide +kernel
      exact this i hi j hj
theorem mul_comm {a b : Nat} (ha : a < 256) (hb : b < 256) : mul a b = mul b a := by
  refine by_bits (f := fun b => mul a b) (g := fun b => mul b a) (fun x y => mul_addb a x y) (fun x y => mul_adda x y a) (fun i hi => ?_) b hb
  refine by_bits (f := fun a => mul a (2 ^ i)) (g := fun a => mul (2 ^ i) a) (fun x y => mul_adda x y _) (fun x y => mul_addb _ x y) (fun j hj => ?_) a ha
  have : ∀ i < 8, ∀ j < 8, mul (2 ^ j) (2 ^ i) = mul (2 ^ i) (2 ^ j) := by decide +kernel
  exact this i hi j hj
theorem mul_assoc {a b c : Nat} (ha : a < 256) (hb : b < 256) (hc : c < 256) : mul (mul a b) c = mul a (mul b c) := by
  refine by_bits (f := fun c => mul (mul a b) c) (g := fun c => mul a (mul b c)) (fun x y => mul_addb _ x y) (fun x y => by simp only [mul_addb]) (fun i hi => ?_) c hc
  refine by_bits (f := fun b => mul (mul a b) (2 ^ i)) (g := fun b => mul a (mul b (2 ^ i))) (fun x y => by simp only [mul_addb, mul_adda]) (fun x y => by simp only [mul_addb, mul_adda]) (fun j hj => ?_) b hb
  refine by_bits (f := fun a => mul (mul a (2 ^ j)) (2 ^ i)) (g := fun a => mul a (mul (2 ^ j) (2 ^ i))) (fun x y => by simp only [mul_adda]) (fun x y => by simp only [mul_adda]) (fun k hk => ?_) a ha
  have : ∀ i < 8, ∀ j < 8, ∀ k < 8, mul (mul (2 ^ k) (2 ^ j)) (2 ^ i) = mul (2 ^ k) (mul (2 ^ j) (2 ^ i)) := by decide +kernel
  exact this i hi j hj k hk
theorem mul_one {a : Nat} (ha : a < 256) : mul a 1 = a := by
  have h : ∀ x < 256, mul x 1 = x := by decide +kernel
  exact h a ha
theorem mul_zero (a : Nat) : mul a 0 = 0 := tms_zero 8 a 0
theorem one_mul {a : Nat} (ha : a < 256) : mul 1 a = a := by rw [mul_comm (by decide) ha, mul_one ha]
theorem zero_mul {a : Nat} (ha : a < 256) : mul 0 a = 0 := by rw [mul_comm (by decide) ha, mul_zero]
theorem pw_add {a : Nat} (ha : a < 256) (m : Nat) : ∀ n, pw a (m + n) = mul (pw a m) (pw a n)
  | 0 => (mul_one (pw_lt m)).symm
  | n + 1 => by
    show mul (pw a (m + n)) a = mul (pw a m) (mul (pw a n) a)
    rw [pw_add ha m n, mul_assoc (pw_lt m) (pw_lt n) ha]
/-- The power 254 in fewer steps. -/
def fin (a : Nat) : Nat :=
  let p3 := mul (mul a a) a
  let p7 := mul (mul p3 p3) a
  let p15 := mul (mul p7 p7) a
  let p31 := mul (mul p15 p15) a
  let p63 := mul (mul p31 p31) a
  let p127 := mul (mul p63 p63) a
  mul p127 p127
theorem pw_dbl {a : Nat} (ha : a < 256) (n : Nat) : pw a (n + n + 1) = mul (mul (pw a n) (pw a n)) a := by
  show mul (pw a (n + n)) a = _
  rw [pw_add ha]
theorem inv_eq {a : Nat} (ha : a < 256) : inv a = fin a := by
  have h1 : pw a 1 = a := by show mul 1 a = a; exact one_mul ha
  have h3 := pw_dbl ha 1
  rw [h1] at h3
  have h7 := pw_dbl ha 3
  have h15 := pw_dbl ha 7
  have h31 := pw_dbl ha 15
  have h63 := pw_dbl ha 31
  have h127 := pw_dbl ha 63
  have h254 := pw_add ha 127 127
  unfold inv fin
  rw [show 254 = 127 + 127 from rfl, h254, h127, h63, h31, h15, h7, h3]
theorem mul_inv {a : Nat} (ha : a < 256) (h0 : a ≠ 0) : mul a (inv a) = 1 := by
  have h : ∀ x < 256, x = 0 ∨ mul x (fin x) = 1 := by decide +kernel
  rw [inv_eq ha]
  exact (h a ha).resolve_left h0
end Go.Proofs.Ytlbmlimaobkhpaa
/- Words of the code: values, places, distances. No program in sight. -/
namespace Go.Proofs.Ytlbmlimaobkhpaa
set_option linter.unusedSimpArgs false
set_option linter.unusedVariables false

/-! ### values -/
def evf (a : Nat) : Nat → List Nat → Nat
  | s, [] => s
  | s, b :: w => evf a (mul s a ^^^ b) w
def ev (a : Nat) (w : List Nat) : Nat := evf a 0 w
def byt (w : List Nat) : Prop := ∀ x ∈ w, x < 256
theorem byt.hd {b : Nat} {w : List Nat} (h : byt (b :: w)) : b < 256 := h b (by simp)
theorem byt.tl {b : Nat} {w : List Nat} (h : byt (b :: w)) : byt w := fun x hx => h x (by simp [hx])
theorem byt.get {w : List Nat} (h : byt w) (i : Nat) : w.getD i 0 < 256 := by
  rw [List.getD_eq_getElem?_getD]
  cases e : w[i]? with
  | none => exact Nat.zero_lt_succ _
  | some x => exact h x (List.mem_of_getElem? e)
theorem byt.set {w : List Nat} (h : byt w) (i : Nat) {x : Nat} (hx : x < 256) : byt (w.set i x) := by
  intro y hy
  rcases List.mem_or_eq_of_mem_set hy with h1 | rfl
  · exact h y h1
  · exact hx
theorem byt.app {u v : List Nat} (h : byt u) (k : byt v) : byt (u ++ v) := fun x hx => (List.mem_append.1 hx).elim (h x) (k x)
theorem byt.take {u : List Nat} (h : byt u) (n : Nat) : byt (u.take n) := fun x hx => h x (List.mem_of_mem_take hx)
theorem byt.drop {u : List Nat} (h : byt u) (n : Nat) : byt (u.drop n) := fun x hx => h x (List.mem_of_mem_drop hx)
theorem byt.rep (n : Nat) : byt (List.replicate n 0) := fun x hx => by rw [(List.mem_replicate.1 hx).2]; decide
theorem byt.map (s : List UInt8) : byt (s.map UInt8.toNat) := fun x hx => by
  obtain ⟨c, _, rfl⟩ := List.mem_map.1 hx
  exact c.toNat_lt
theorem evf_app (a : Nat) : ∀ (u v : List Nat) (s : Nat), evf a s (u ++ v) = evf a (evf a s u) v
  | [], _, _ => rfl
  | b :: u, v, s => evf_app a u v _
theorem evf_lt (a : Nat) : ∀ (w : List Nat) (s : Nat), s < 256 → byt w → evf a s w < 256
  | [], _, h, _ => h
  | b :: w, s, h, hw => evf_lt a w _ (xor_lt (mul_lt a h) hw.hd) hw.tl
theorem ev_lt (a : Nat) {w : List Nat} (hw : byt w) : ev a w < 256 := evf_lt a w 0 (by decide) hw
theorem evf_split {a : Nat} (ha : a < 256) : ∀ (w : List Nat) (s : Nat), s < 256 → byt w → evf a s w = mul s (pw a w.length) ^^^ evf a 0 w
  | [], s, hs, _ => by show s = mul s 1 ^^^ 0; rw [mul_one hs, Nat.xor_zero]
  | b :: w, s, hs, hw => by
    have hm := mul_lt a hs
    show evf a (mul s a ^^^ b) w = mul s (mul (pw a w.length) a) ^^^ evf a (mul 0 a ^^^ b) w
    rw [zero_mul ha, Nat.zero_xor, evf_split ha w _ (xor_lt hm hw.hd) hw.tl, evf_split ha w b hw.hd hw.tl, mul_adda, mul_assoc hs ha (pw_lt _), mul_comm ha (pw_lt _), Nat.xor_assoc]
theorem ev_cons {a b : Nat} {w : List Nat} (ha : a < 256) (hw : byt (b :: w)) : ev a (b :: w) = mul b (pw a w.length) ^^^ ev a w := by
  show evf a (mul 0 a ^^^ b) w = _
  rw [zero_mul ha, Nat.zero_xor, evf_split ha w b hw.hd hw.tl]; rfl
theorem take_succ {α : Type} {d : α} {w : List α} {k : Nat} (h : k < w.length) : w.take (k + 1) = w.take k ++ [w.getD k d] := by
  rw [List.take_add_one, List.getD_eq_getElem?_getD, List.getElem?_eq_getElem h]; rfl
theorem evf_take (a s : Nat) {w : List Nat} {k : Nat} (h : k < w.length) : evf a s (w.take (k + 1)) = mul (evf a s (w.take k)) a ^^^ w.getD k 0 := by
  rw [take_succ (d := 0) h, evf_app]; rfl
/-- The sum of two words. -/
def xw (u v : List Nat) : List Nat := List.zipWith (· ^^^ ·) u v
theorem evf_xw (a : Nat) : ∀ (u v : List Nat) (s t : Nat), u.length = v.length → evf a (s ^^^ t) (xw u v) = evf a s u ^^^ evf a t v
  | [], [], _, _, _ => rfl
  | [], _ :: _, _, _, h => by simp at h
  | _ :: _, [], _, _, h => by simp at h
  | b :: u, c :: v, s, t, h => by
    show evf a (mul (s ^^^ t) a ^^^ (b ^^^ c)) (xw u v) = _
    rw [mul_adda, xor_swap, evf_xw a u v _ _ (by simpa using h)]; rfl
theorem ev_xw (a : Nat) {u v : List Nat} (h : u.length = v.length) : ev a (xw u v) = ev a u ^^^ ev a v := by
  have := evf_xw a u v 0 0 h
  simpa [ev] using this

/-! ### powers of 2 -/
theorem mul_ne {a b : Nat} (ha : a < 256) (hb : b < 256) (h1 : a ≠ 0) (h2 : b ≠ 0) : mul a b ≠ 0 := by
  intro h
  have h3 := mul_assoc (inv_lt a) ha hb
  rw [mul_comm (inv_lt a) ha, mul_inv ha h1, one_mul hb, h, mul_zero] at h3
  exact h2 h3
theorem mul_can {a b c : Nat} (ha : a < 256) (hb : b < 256) (hc : c < 256) (h1 : a ≠ 0) (h : mul a b = mul a c) : b = c := by
  have h3 := mul_assoc (inv_lt a) ha hb
  have h4 := mul_assoc (inv_lt a) ha hc
  rw [mul_comm (inv_lt a) ha, mul_inv ha h1, one_mul hb, h] at h3
  rw [mul_comm (inv_lt a) ha, mul_inv ha h1, one_mul hc] at h4
  exact h3.trans h4.symm
theorem pw_ne {a : Nat} (ha : a < 256) (h : a ≠ 0) : ∀ n, pw a n ≠ 0
  | 0 => by show 1 ≠ 0; decide
  | n + 1 => mul_ne (pw_lt n) ha (pw_ne ha h n) h
theorem pw_mul {a : Nat} (ha : a < 256) (m : Nat) : ∀ n, pw (pw a m) n = pw a (m * n)
  | 0 => rfl
  | n + 1 => by
    show mul (pw (pw a m) n) (pw a m) = _
    rw [pw_mul ha m n, ← pw_add ha, Nat.mul_succ]
theorem pw_swap {a : Nat} (ha : a < 256) (m n : Nat) : pw (pw a m) n = pw (pw a n) m := by rw [pw_mul ha, pw_mul ha, Nat.mul_comm]
def chk : Nat → Nat → Bool
  | 0, _ => true
  | n + 1, x => !(Nat.beq x 1) && chk n (mul x 2)
theorem mul_pw2 {x : Nat} (hx : x < 256) (k : Nat) : mul x (pw 2 (k + 1)) = mul (mul x 2) (pw 2 k) := by
  show mul x (mul (pw 2 k) 2) = _
  rw [mul_comm (pw_lt k) (by decide), ← mul_assoc hx (by decide) (pw_lt k)]
theorem chk_spec : ∀ (n x : Nat), x < 256 → chk n x = true → ∀ k < n, mul x (pw 2 k) ≠ 1
  | 0, _, _, _, _, hk => by omega
  | n + 1, x, hx, h, k, hk => by
    unfold chk at h
    simp only [Bool.and_eq_true, Bool.not_eq_true'] at h
    cases k with
    | zero =>
      show mul x 1 ≠ 1
      rw [mul_one hx]
      intro e; rw [e] at h; simp at h
    | succ k => rw [mul_pw2 hx]; exact chk_spec n _ (mul_lt 2 hx) h.2 k (by omega)
theorem pw2_ne {k : Nat} (h1 : 0 < k) (h2 : k < 255) : pw 2 k ≠ 1 := by
  have h : chk 254 2 = true := by decide +kernel
  have := chk_spec 254 2 (by decide) h (k - 1) (by omega)
  have e : pw 2 k = mul 2 (pw 2 (k - 1)) := by
    rw [mul_comm (by decide) (pw_lt _)]
    obtain ⟨m, rfl⟩ : ∃ m, k = m + 1 := ⟨k - 1, by omega⟩
    rfl
  rw [e]; exact this
theorem pw2_lt_ne {i j : Nat} (h : i < j) (hj : j < 255) : pw 2 i ≠ pw 2 j := by
  intro e
  have h1 := pw_add (a := 2) (by decide) i (j - i)
  rw [show i + (j - i) = j by omega, ← e] at h1
  have h2 : mul (pw 2 i) 1 = pw 2 i := mul_one (pw_lt i)
  have := mul_can (pw_lt i) (pw_lt (j - i)) (by decide) (pw_ne (by decide) (by decide) i) (h1.symm.trans h2.symm)
  exact pw2_ne (by omega) (by omega) this
theorem pw2_inj {i j : Nat} (hi : i < 255) (hj : j < 255) (h : pw 2 i = pw 2 j) : i = j := by
  rcases Nat.lt_trichotomy i j with h1 | h1 | h1
  · exact absurd h (pw2_lt_ne h1 hj)
  · exact h1
  · exact absurd h.symm (pw2_lt_ne h1 hi)
def fnd : Nat → Nat → Nat → Bool
  | 0, _, _ => false
  | n + 1, x, a => Nat.beq x a || fnd n (mul x 2) a
theorem fnd_spec : ∀ (n x a : Nat), x < 256 → fnd n x a = true → ∃ k < n, mul x (pw 2 k) = a
  | 0, _, _, _, h => by simp [fnd] at h
  | n + 1, x, a, hx, h => by
    unfold fnd at h
    rcases Bool.or_eq_true _ _ ▸ h with h1 | h1
    · exact ⟨0, by omega, by show mul x 1 = a; rw [mul_one hx]; exact Nat.eq_of_beq_eq_true h1⟩
    · obtain ⟨k, hk, e⟩ := fnd_spec n _ a (mul_lt 2 hx) h1
      exact ⟨k + 1, by omega, by rw [mul_pw2 hx]; exact e⟩
theorem pw2_surj {a : Nat} (ha : a < 256) (h0 : a ≠ 0) : ∃ k < 255, pw 2 k = a := by
  have h : ∀ a < 256, a = 0 ∨ fnd 255 1 a = true := by decide +kernel
  obtain ⟨k, hk, e⟩ := fnd_spec 255 1 a (by decide) ((h a ha).resolve_left h0)
  exact ⟨k, hk, by rw [one_mul (pw_lt k)] at e; exact e⟩
theorem pw2_255 : pw 2 255 = 1 := by decide +kernel
theorem pw2_mod (n : Nat) : pw 2 (n % 255) = pw 2 n := by
  have h1 : ∀ q, pw 2 (255 * q) = 1 := by
    intro q
    rw [← pw_mul (by decide), pw2_255]
    induction q with
    | zero => rfl
    | succ q ih => show mul (pw 1 q) 1 = 1; rw [ih]; decide
  have h2 := pw_add (a := 2) (by decide) (255 * (n / 255)) (n % 255)
  rw [h1, one_mul (pw_lt _), Nat.div_add_mod] at h2
  exact h2.symm

/-! ### distance -/
def TT (j : Nat) : List (Nat × Nat) → Nat
  | [] => 0
  | (x, e) :: l => mul e (pw x j) ^^^ TT j l
def okL (l : List (Nat × Nat)) : Prop := ∀ p ∈ l, p.1 < 256 ∧ p.2 < 256
theorem okL.tl {p : Nat × Nat} {l : List (Nat × Nat)} (h : okL (p :: l)) : okL l := fun q hq => h q (by simp [hq])
def tw (x0 : Nat) : List (Nat × Nat) → List (Nat × Nat)
  | [] => []
  | (x, e) :: l => (x, mul e (x ^^^ x0)) :: tw x0 l
theorem TT_lt (j : Nat) : ∀ l, okL l → TT j l < 256
  | [], _ => by show 0 < 256; decide
  | (x, e) :: l, h => xor_lt (mul_lt _ (h (x, e) (by simp)).2) (TT_lt j l h.tl)
theorem TT_tw (j : Nat) {x0 : Nat} (h0 : x0 < 256) : ∀ l, okL l → TT j (tw x0 l) = TT (j + 1) l ^^^ mul x0 (TT j l)
  | [], _ => by show 0 = 0 ^^^ mul x0 0; rw [mul_zero]; rfl
  | (x, e) :: l, h => by
    have hx := (h (x, e) (by simp)).1
    have he := (h (x, e) (by simp)).2
    simp only at hx he
    show mul (mul e (x ^^^ x0)) (pw x j) ^^^ TT j (tw x0 l) = (mul e (mul (pw x j) x) ^^^ TT (j + 1) l) ^^^ mul x0 (mul e (pw x j) ^^^ TT j l)
    rw [TT_tw j h0 l h.tl, mul_addb, mul_adda, mul_addb, mul_assoc he hx (pw_lt j), mul_comm hx (pw_lt j), mul_comm he h0, mul_assoc h0 he (pw_lt j), xor_swap]
theorem tw_fst (x0 : Nat) : ∀ l, (tw x0 l).map Prod.fst = l.map Prod.fst
  | [] => rfl
  | (x, e) :: l => by simp [tw, tw_fst x0 l]
theorem tw_len (x0 : Nat) (l : List (Nat × Nat)) : (tw x0 l).length = l.length := by
  have := congrArg List.length (tw_fst x0 l)
  simpa using this
theorem tw_ok {x0 : Nat} (h0 : x0 < 256) : ∀ l, okL l → okL (tw x0 l)
  | [], _ => fun p hp => by simp [tw] at hp
  | (x, e) :: l, h => fun p hp => by
    rcases List.mem_cons.1 hp with rfl | h1
    · exact ⟨(h (x, e) (by simp)).1, mul_lt _ (h (x, e) (by simp)).2⟩
    · exact tw_ok h0 l h.tl p h1
theorem tw_mem {x0 x e : Nat} : ∀ {l : List (Nat × Nat)}, (x, e) ∈ l → (x, mul e (x ^^^ x0)) ∈ tw x0 l
  | (x', e') :: l, h => by
    rcases List.mem_cons.1 h with h1 | h1
    · cases h1; exact List.mem_cons_self
    · exact List.mem_cons_of_mem _ (tw_mem h1)
theorem TT_zero (j : Nat) : ∀ l, okL l → (∀ p ∈ l, p.2 = 0) → TT j l = 0
  | [], _, _ => rfl
  | (x, e) :: l, h, hz => by
    have : e = 0 := hz (x, e) (by simp)
    subst this
    show mul 0 (pw x j) ^^^ TT j l = 0
    rw [zero_mul (pw_lt j), TT_zero j l h.tl fun p hp => hz p (by simp [hp])]; rfl
theorem xor_eq_zero {a b : Nat} (h : a ^^^ b = 0) : a = b := by
  have : (a ^^^ b) ^^^ b = b := by rw [h, Nat.zero_xor]
  rw [Nat.xor_assoc, Nat.xor_self, Nat.xor_zero] at this
  exact this
theorem vander : ∀ (n : Nat) (l : List (Nat × Nat)), l.length = n → okL l → (l.map Prod.fst).Nodup → (∀ j < n, TT j l = 0) → ∀ p ∈ l, p.2 = 0
  | 0, l, hl, _, _, _ => fun p hp => by
    have : l = [] := List.eq_nil_of_length_eq_zero hl
    subst this; simp at hp
  | n + 1, [], hl, _, _, _ => by simp at hl
  | n + 1, (x0, e0) :: r, hl, ho, hd, hT => by
    have hx0 := (ho (x0, e0) (by simp)).1
    have he0 := (ho (x0, e0) (by simp)).2
    simp only at hx0 he0
    have hr : ∀ j < n + 1, TT j r = mul e0 (pw x0 j) := fun j hj => (xor_eq_zero (hT j hj)).symm
    rw [List.map_cons, List.nodup_cons] at hd
    have hz := vander n (tw x0 r) (by rw [tw_len]; simpa using hl) (tw_ok hx0 r ho.tl) (by rw [tw_fst]; exact hd.2) (fun j hj => by
      rw [TT_tw j hx0 r ho.tl, hr j (by omega), hr (j + 1) (by omega), ← mul_assoc hx0 he0 (pw_lt j), mul_comm hx0 he0, mul_assoc he0 hx0 (pw_lt j), mul_comm hx0 (pw_lt j)]
      exact Nat.xor_self _)
    have hz2 : ∀ p ∈ r, p.2 = 0 := by
      rintro ⟨x, e⟩ hp
      have h1 := hz _ (tw_mem (x0 := x0) hp)
      simp only at h1 ⊢
      have hx := (ho (x, e) (by simp [hp])).1
      have he := (ho (x, e) (by simp [hp])).2
      simp only at hx he
      rcases Nat.eq_zero_or_pos e with h2 | h2
      · exact h2
      · refine absurd h1 (mul_ne he (xor_lt hx hx0) (by omega) fun h3 => ?_)
        have := xor_eq_zero h3
        subst this
        exact hd.1 (List.mem_map.2 ⟨_, hp, rfl⟩)
    intro p hp
    rcases List.mem_cons.1 hp with rfl | h1
    · have h2 := hT 0 (by omega)
      have h3 := TT_zero 0 r ho.tl hz2
      have h4 : mul e0 1 ^^^ TT 0 r = 0 := h2
      rw [h3, mul_one he0, Nat.xor_zero] at h4
      exact h4
    · exact hz2 p h1
/-- Where a word is not 0: the powers of 2 of the places, and what is there. -/
def sup : List Nat → List (Nat × Nat)
  | [] => []
  | b :: z => if b = 0 then sup z else (pw 2 z.length, b) :: sup z
theorem ev_sup (j : Nat) : ∀ z, byt z → ev (pw 2 j) z = TT j (sup z)
  | [], _ => rfl
  | b :: z, h => by
    rw [ev_cons (pw_lt j) h, ev_sup j z h.tl, pw_swap (by decide)]
    by_cases e : b = 0
    · rw [sup, if_pos e, e, zero_mul (pw_lt _), Nat.zero_xor]
    · rw [sup, if_neg e]; rfl
theorem sup_mem : ∀ (z : List Nat), byt z → ∀ p ∈ sup z, p.2 ≠ 0 ∧ p.2 < 256 ∧ ∃ k < z.length, p.1 = pw 2 k
  | [], _, _, hp => by simp [sup] at hp
  | b :: z, h, p, hp => by
    unfold sup at hp
    split at hp
    · obtain ⟨h1, h2, k, hk, e⟩ := sup_mem z h.tl p hp
      exact ⟨h1, h2, k, by simp; omega, e⟩
    · rename_i hb
      rcases List.mem_cons.1 hp with rfl | h1
      · exact ⟨hb, h.hd, z.length, by simp, rfl⟩
      · obtain ⟨h1, h2, k, hk, e⟩ := sup_mem z h.tl p h1
        exact ⟨h1, h2, k, by simp; omega, e⟩
theorem sup_nodup : ∀ (z : List Nat), byt z → z.length ≤ 255 → ((sup z).map Prod.fst).Nodup
  | [], _, _ => by simp [sup]
  | b :: z, h, hl => by
    have hl2 : z.length + 1 ≤ 255 := by simpa using hl
    unfold sup
    split
    · exact sup_nodup z h.tl (by omega)
    · rw [List.map_cons, List.nodup_cons]
      refine ⟨fun hm => ?_, sup_nodup z h.tl (by omega)⟩
      obtain ⟨p, hp, e⟩ := List.mem_map.1 hm
      obtain ⟨_, _, k, hk, e2⟩ := sup_mem z h.tl p hp
      simp only at e
      exact pw2_lt_ne hk (by omega) (e2.symm.trans e)
theorem sup_dist {z : List Nat} (h : byt z) (hl : z.length ≤ 255) (hv : ∀ j < 6, ev (pw 2 j) z = 0) (h6 : (sup z).length ≤ 6) : sup z = [] := by
  have hz := vander _ (sup z) rfl (fun p hp => by
    obtain ⟨_, h2, k, _, e⟩ := sup_mem z h p hp
    exact ⟨by rw [e]; exact pw_lt k, h2⟩) (sup_nodup z h hl) (fun j hj => by rw [← ev_sup j z h]; exact hv j (by omega))
  cases e : sup z with
  | nil => rfl
  | cons p r =>
    have hp : p ∈ sup z := by rw [e]; simp
    exact absurd (hz p hp) (sup_mem z h p hp).1

/-- In how many places two words differ. -/
def ap : List Nat → List Nat → Nat
  | a :: s, b :: t => (if a = b then 0 else 1) + ap s t
  | _, _ => 0
theorem ap_sup : ∀ (s t : List Nat), s.length = t.length → (sup (xw s t)).length = ap s t
  | [], [], _ => rfl
  | [], _ :: _, h => by simp at h
  | _ :: _, [], h => by simp at h
  | a :: s, b :: t, h => by
    have ih := ap_sup s t (by simpa using h)
    show (sup ((a ^^^ b) :: xw s t)).length = (if a = b then 0 else 1) + ap s t
    unfold sup
    by_cases e : a = b
    · subst e; simp [ih]
    · have : a ^^^ b ≠ 0 := fun h => e (xor_eq_zero h)
      simp [e, this, ih]; omega
theorem ap_zero : ∀ (s t : List Nat), s.length = t.length → ap s t = 0 → s = t
  | [], [], _, _ => rfl
  | [], _ :: _, h, _ => by simp at h
  | _ :: _, [], h, _ => by simp at h
  | a :: s, b :: t, h, h0 => by
    unfold ap at h0
    have : a = b := by
      by_cases e : a = b
      · exact e
      · rw [if_neg e] at h0; omega
    rw [this, ap_zero s t (by simpa using h) (by omega)]
theorem ap_self : ∀ (s : List Nat), ap s s = 0
  | [] => rfl
  | a :: s => by unfold ap; rw [if_pos rfl, ap_self s]
theorem ap_comm : ∀ (s t : List Nat), ap s t = ap t s
  | [], [] => rfl
  | [], _ :: _ => rfl
  | _ :: _, [] => rfl
  | a :: s, b :: t => by
    unfold ap; rw [ap_comm s t]
    by_cases e : a = b
    · rw [if_pos e, if_pos e.symm]
    · rw [if_neg e, if_neg fun h => e h.symm]
theorem ap_tri : ∀ (s t u : List Nat), s.length = t.length → t.length = u.length → ap s u ≤ ap s t + ap t u
  | [], [], [], _, _ => by simp [ap]
  | _ :: _, [], _, h, _ => by simp at h
  | [], _ :: _, _, h, _ => by simp at h
  | _, _ :: _, [], _, h => by simp at h
  | _, [], _ :: _, _, h => by simp at h
  | a :: s, b :: t, c :: u, h, k => by
    have ih := ap_tri s t u (by simpa using h) (by simpa using k)
    unfold ap
    split <;> split <;> split <;> omega
/-- A word of the code. -/
def cw (w : List Nat) : Prop := ∀ j < 6, ev (pw 2 j) w = 0
theorem byt.xw {u v : List Nat} (hu : byt u) (hv : byt v) : byt (xw u v) := by
  intro x hx
  unfold Proofs.Ytlbmlimaobkhpaa.xw at hx
  induction u generalizing v with
  | nil => simp at hx
  | cons a u ih =>
    cases v with
    | nil => simp at hx
    | cons b v =>
      rcases List.mem_cons.1 hx with rfl | h1
      · exact xor_lt hu.hd hv.hd
      · exact ih hu.tl hv.tl h1
theorem far {s t : List Nat} (hs : byt s) (ht : byt t) (he : s.length = t.length) (hl : s.length ≤ 255) (h1 : cw s) (h2 : cw t) (h6 : ap s t ≤ 6) : s = t := by
  have hlen : (xw s t).length = s.length := by simp [xw, he]
  have := sup_dist (hs.xw ht) (by omega) (fun j hj => by rw [ev_xw _ he, h1 j hj, h2 j hj]; rfl) (by rw [ap_sup s t he]; exact h6)
  have h0 := ap_sup s t he
  rw [this] at h0
  exact ap_zero s t he h0.symm
/-- w is the word of the code that s was. -/
structure good (s w : List Nat) : Prop where
  len : w.length = s.length
  byt : byt w
  cw : cw w
  near : ap w s ≤ 2
theorem good.uniq {s w w' : List Nat} (h : good s w) (k : good s w') (hl : s.length ≤ 255) : w = w' := by
  have h1 := ap_tri w s w' h.len (k.len.symm)
  have h2 := h.near
  have h3 := k.near
  rw [ap_comm s w'] at h1
  exact far h.byt k.byt (h.len.trans k.len.symm) (by rw [h.len]; exact hl) h.cw k.cw (by omega)

/-! ### wrong places -/
def PT (n j : Nat) : List (Nat × Nat) → Nat
  | [] => 0
  | (i, e) :: l => mul e (pw 2 ((n - 1 - i) * j)) ^^^ PT n j l
theorem ev_fix (j : Nat) : ∀ (w : List Nat) (i e : Nat), byt w → i < w.length → e < 256 → ev (pw 2 j) (w.set i (w.getD i 0 ^^^ e)) = ev (pw 2 j) w ^^^ mul e (pw 2 ((w.length - 1 - i) * j))
  | [], _, _, _, h, _ => by simp at h
  | b :: r, 0, e, hw, _, he => by
    show ev (pw 2 j) ((b ^^^ e) :: r) = _
    have h2 : byt ((b ^^^ e) :: r) := fun x hx => by
      rcases List.mem_cons.1 hx with rfl | h1
      · exact xor_lt hw.hd he
      · exact hw.tl x h1
    rw [ev_cons (pw_lt j) h2, ev_cons (pw_lt j) hw, mul_adda, pw_mul (by decide)]
    have e1 : (b :: r).length - 1 - 0 = r.length := by simp
    rw [e1, Nat.mul_comm r.length j, Nat.xor_assoc, Nat.xor_comm (mul e _), Nat.xor_assoc]
  | b :: r, i + 1, e, hw, hi, he => by
    have ih := ev_fix j r i e hw.tl (by simpa using hi) he
    show ev (pw 2 j) (b :: r.set i (r.getD i 0 ^^^ e)) = _
    have h2 : byt (b :: r.set i (r.getD i 0 ^^^ e)) := fun x hx => by
      rcases List.mem_cons.1 hx with rfl | h1
      · exact hw.hd
      · exact (hw.tl.set i (xor_lt (hw.tl.get i) he)) x h1
    rw [ev_cons (pw_lt j) h2, ev_cons (pw_lt j) hw, List.length_set, ih]
    have e1 : (b :: r).length - 1 - (i + 1) = r.length - 1 - i := by simp; omega
    rw [e1, Nat.xor_assoc]
/-- Where two words differ, and by what. -/
def pat (i : Nat) : List Nat → List Nat → List (Nat × Nat)
  | a :: w, b :: s => if a = b then pat (i + 1) w s else (i, a ^^^ b) :: pat (i + 1) w s
  | _, _ => []
theorem pat_len : ∀ (w s : List Nat) (i : Nat), (pat i w s).length = ap w s
  | [], _, _ => by simp [pat, ap]
  | _ :: _, [], _ => by simp [pat, ap]
  | a :: w, b :: s, i => by
    unfold pat ap
    split
    · rw [pat_len w s]; omega
    · rw [List.length_cons, pat_len w s]; omega
theorem pat_PT (n j : Nat) : ∀ (w s : List Nat) (i : Nat), byt w → byt s → w.length = s.length → i + w.length = n → PT n j (pat i w s) = ev (pw 2 j) w ^^^ ev (pw 2 j) s
  | [], [], _, _, _, _, _ => by show 0 = ev _ [] ^^^ ev _ []; rw [Nat.xor_self]
  | [], _ :: _, _, _, _, h, _ => by simp at h
  | _ :: _, [], _, _, _, h, _ => by simp at h
  | a :: w, b :: s, i, hw, hs, hl, hn => by
    have hl2 : w.length = s.length := by simpa using hl
    have ih := pat_PT n j w s (i + 1) hw.tl hs.tl hl2 (by simp at hn; omega)
    rw [ev_cons (pw_lt j) hw, ev_cons (pw_lt j) hs, hl2, xor_swap, ← mul_adda, pw_mul (by decide)]
    unfold pat
    split
    · rename_i e
      rw [ih, e, Nat.xor_self, zero_mul (pw_lt _), Nat.zero_xor]
    · show mul (a ^^^ b) (pw 2 ((n - 1 - i) * j)) ^^^ PT n j (pat (i + 1) w s) = _
      rw [ih]
      have : n - 1 - i = s.length := by simp at hn; omega
      rw [this, Nat.mul_comm]
theorem pat_mem : ∀ (w s : List Nat) (i : Nat), byt w → byt s → ∀ p ∈ pat i w s, i ≤ p.1 ∧ p.1 < i + w.length ∧ p.2 ≠ 0 ∧ p.2 < 256
  | [], _, _, _, _, p, hp => by simp [pat] at hp
  | _ :: _, [], _, _, _, p, hp => by simp [pat] at hp
  | a :: w, b :: s, i, hw, hs, p, hp => by
    unfold pat at hp
    split at hp
    · have := pat_mem w s (i + 1) hw.tl hs.tl p hp
      simp; omega
    · rename_i e
      rcases List.mem_cons.1 hp with rfl | h1
      · exact ⟨Nat.le_refl _, by simp, fun h => e (xor_eq_zero h), xor_lt hw.hd hs.hd⟩
      · have := pat_mem w s (i + 1) hw.tl hs.tl p h1
        simp; omega
theorem pat_asc : ∀ (w s : List Nat) (i : Nat), byt w → byt s → ((pat i w s).map Prod.fst).Pairwise (· < ·)
  | [], _, _, _, _ => by simp [pat]
  | _ :: _, [], _, _, _ => by simp [pat]
  | a :: w, b :: s, i, hw, hs => by
    unfold pat
    split
    · exact pat_asc w s (i + 1) hw.tl hs.tl
    · rw [List.map_cons, List.pairwise_cons]
      refine ⟨fun x hx => ?_, pat_asc w s (i + 1) hw.tl hs.tl⟩
      obtain ⟨p, hp, rfl⟩ := List.mem_map.1 hx
      have := pat_mem w s (i + 1) hw.tl hs.tl p hp
      simp only; omega
/-- At most two wrong places that explain the values. -/
structure PatOk (n : Nat) (vs : List Nat) (l : List (Nat × Nat)) : Prop where
  len : l.length ≤ 2
  mem : ∀ p ∈ l, p.1 < n ∧ p.2 ≠ 0 ∧ p.2 < 256
  asc : (l.map Prod.fst).Pairwise (· ≠ ·)
  sum : ∀ j < 6, PT n j l = vs.getD j 0
def syn (w : List Nat) : List Nat := (List.range 6).map fun j => ev (pw 2 j) w
theorem syn_get (w : List Nat) {j : Nat} (hj : j < 6) : (syn w).getD j 0 = ev (pw 2 j) w := by
  rw [List.getD_eq_getElem?_getD, syn, List.getElem?_map, List.getElem?_range hj]; rfl
theorem good_pats {s w : List Nat} (h : good s w) (hs : byt s) : PatOk s.length (syn s) (pat 0 w s) where
  len := by rw [pat_len]; exact h.near
  mem := fun p hp => by have := pat_mem w s 0 h.byt hs p hp; have := h.len; omega
  asc := (pat_asc w s 0 h.byt hs).imp fun h => Nat.ne_of_lt h
  sum := fun j hj => by rw [syn_get s hj, pat_PT s.length j w s 0 h.byt hs h.len (by rw [Nat.zero_add, h.len]), h.cw j hj, Nat.zero_xor]
/-- The word with these places changed. -/
def fixw (w : List Nat) : List (Nat × Nat) → List Nat
  | [] => w
  | (i, e) :: l => fixw (w.set i (w.getD i 0 ^^^ e)) l
theorem fixw_len : ∀ (l : List (Nat × Nat)) (w : List Nat), (fixw w l).length = w.length
  | [], _ => rfl
  | (i, e) :: l, w => by unfold fixw; rw [fixw_len l, List.length_set]
theorem ap_set : ∀ (w s : List Nat) (i x : Nat), w.length = s.length → ap (w.set i x) s ≤ ap w s + 1
  | [], _, _, _, _ => by simp [ap]
  | _ :: _, [], _, _, h => by simp at h
  | a :: w, b :: s, 0, x, _ => by
    show (if x = b then 0 else 1) + ap w s ≤ (if a = b then 0 else 1) + ap w s + 1
    split <;> split <;> omega
  | a :: w, b :: s, i + 1, x, h => by
    have := ap_set w s i x (by simpa using h)
    show (if a = b then 0 else 1) + ap (w.set i x) s ≤ (if a = b then 0 else 1) + ap w s + 1
    omega
theorem fixw_ap : ∀ (l : List (Nat × Nat)) (w s : List Nat), w.length = s.length → ap (fixw w l) s ≤ ap w s + l.length
  | [], _, _, _ => Nat.le_refl _
  | (i, e) :: l, w, s, h => by
    have h1 := fixw_ap l (w.set i (w.getD i 0 ^^^ e)) s (by rw [List.length_set]; exact h)
    have h2 := ap_set w s i (w.getD i 0 ^^^ e) h
    simp only [fixw, List.length_cons]; omega
theorem fixw_byt : ∀ (l : List (Nat × Nat)) (w : List Nat), byt w → (∀ p ∈ l, p.2 < 256) → byt (fixw w l)
  | [], _, h, _ => h
  | (i, e) :: l, w, h, hl => fixw_byt l _ (h.set i (xor_lt (h.get i) (hl (i, e) (by simp)))) fun p hp => hl p (by simp [hp])
theorem fixw_ev (j : Nat) : ∀ (l : List (Nat × Nat)) (w : List Nat), byt w → (∀ p ∈ l, p.1 < w.length ∧ p.2 < 256) → ev (pw 2 j) (fixw w l) = ev (pw 2 j) w ^^^ PT w.length j l
  | [], w, _, _ => by show _ = _ ^^^ 0; rw [Nat.xor_zero]; rfl
  | (i, e) :: l, w, h, hl => by
    have h0 := hl (i, e) (by simp)
    have h1 := h.set i (xor_lt (h.get i) h0.2)
    have := fixw_ev j l _ h1 fun p hp => by rw [List.length_set]; exact hl p (by simp [hp])
    unfold fixw
    rw [this, ev_fix j w i e h h0.1 h0.2, List.length_set, Nat.xor_assoc]; rfl
theorem PatOk.isGood {w : List Nat} {l : List (Nat × Nat)} (hw : byt w) (h : PatOk w.length (syn w) l) : good w (fixw w l) where
  len := fixw_len l w
  byt := fixw_byt l w hw fun p hp => (h.mem p hp).2.2
  cw := fun j hj => by
    rw [fixw_ev j l w hw fun p hp => ⟨(h.mem p hp).1, (h.mem p hp).2.2⟩, h.sum j hj, syn_get w hj, Nat.xor_self]
  near := by have := fixw_ap l w w rfl; rw [ap_self] at this; have := h.len; omega
/-- Each of the places counts. -/
theorem ap_get : ∀ (w s : List Nat) (i : Nat), w.length = s.length → i < w.length → ap w s = ap (w.set i (s.getD i 0)) s + (if w.getD i 0 = s.getD i 0 then 0 else 1)
  | [], _, _, _, h => by simp at h
  | _ :: _, [], _, h, _ => by simp at h
  | a :: w, b :: s, 0, _, _ => by
    show (if a = b then 0 else 1) + ap w s = ((if b = b then 0 else 1) + ap w s) + (if a = b then 0 else 1)
    rw [if_pos rfl]; omega
  | a :: w, b :: s, i + 1, h, hi => by
    have := ap_get w s i (by simpa using h) (by simpa using hi)
    show (if a = b then 0 else 1) + ap w s = ((if a = b then 0 else 1) + ap (w.set i (s.getD i 0)) s) + (if w.getD i 0 = s.getD i 0 then 0 else 1)
    omega
end Go.Proofs.Ytlbmlimaobkhpaa
/- The checks of a word: what the division leaves. No program in sight. -/
namespace Go.Proofs.Ytlbmlimaobkhpaa
set_option linter.unusedSimpArgs false
set_option linter.unusedVariables false

/-! ### the generator -/
def nx (g : List Nat) (a : Nat) : Nat → List Nat
  | 0 => List.replicate (g.length + 1) 0
  | i + 1 => let l := (nx g a i).set i ((nx g a i).getD i 0 ^^^ g.getD i 0)
             l.set (i + 1) (l.getD (i + 1) 0 ^^^ mul (g.getD i 0) a)
def gens : Nat → List Nat
  | 0 => [1]
  | j + 1 => nx (gens j) (pw 2 j) (gens j).length
theorem nx_len (g : List Nat) (a : Nat) : ∀ i, (nx g a i).length = g.length + 1
  | 0 => by simp [nx]
  | i + 1 => by simp [nx, nx_len g a i]
theorem gens_len : ∀ j, (gens j).length = j + 1
  | 0 => rfl
  | j + 1 => by rw [gens, nx_len, gens_len j]
def small (l : List Nat) : Prop := ∀ i, l.getD i 0 < 256
theorem small.set {l : List Nat} (h : small l) (i : Nat) {x : Nat} (hx : x < 256) : small (l.set i x) := by
  intro j
  rw [List.getD_eq_getElem?_getD, List.getElem?_set]
  split
  · split
    · exact hx
    · exact Nat.zero_lt_succ _
  · rw [← List.getD_eq_getElem?_getD]; exact h j
theorem small.rep (n : Nat) : small (List.replicate n 0) := by
  intro j; rw [List.getD_eq_getElem?_getD, List.getElem?_replicate]; split <;> simp
theorem nx_small {g : List Nat} (hg : small g) (a : Nat) : ∀ i, small (nx g a i)
  | 0 => small.rep _
  | i + 1 => by
    have h1 := (nx_small hg a i).set i (xor_lt (nx_small hg a i i) (hg i))
    exact h1.set (i + 1) (xor_lt (h1 (i + 1)) (mul_lt a (hg i)))
theorem gens_small : ∀ j, small (gens j)
  | 0 => fun i => by
    match i with
    | 0 => show 1 < 256; decide
    | i + 1 => show 0 < 256; decide
  | j + 1 => nx_small (gens_small j) _ _
theorem gens_succ (j : Nat) : gens (j + 1) = nx (gens j) (pw 2 j) (j + 1) := by rw [gens, gens_len]
/-! ### the division -/
def ckI (g : List Nat) (c i : Nat) (r : List Nat) : Nat → List Nat
  | 0 => r
  | k + 1 => (ckI g c i r k).set (i + k) ((ckI g c i r k).getD (i + k) 0 ^^^ mul c (g.getD k 0))
def ckO (g r : List Nat) : Nat → List Nat
  | 0 => r
  | i + 1 => ckI g ((ckO g r i).getD i 0) i (ckO g r i) g.length
def chkV (s : List Nat) : List Nat := (ckO (gens 6) (s ++ List.replicate 6 0) s.length).drop s.length
theorem ckI_len (g : List Nat) (c i : Nat) (r : List Nat) : ∀ k, (ckI g c i r k).length = r.length
  | 0 => rfl
  | k + 1 => by rw [ckI, List.length_set, ckI_len g c i r k]
theorem ckO_len (g r : List Nat) : ∀ i, (ckO g r i).length = r.length
  | 0 => rfl
  | i + 1 => by rw [ckO, ckI_len, ckO_len g r i]
theorem ckI_byt {g : List Nat} {c : Nat} {r : List Nat} (hc : c < 256) (i : Nat) (hr : byt r) : ∀ k, byt (ckI g c i r k)
  | 0 => hr
  | k + 1 => (ckI_byt hc i hr k).set _ (xor_lt ((ckI_byt hc i hr k).get _) (mul_lt _ hc))
theorem ckO_byt {g r : List Nat} (hr : byt r) : ∀ i, byt (ckO g r i)
  | 0 => hr
  | i + 1 => ckI_byt ((ckO_byt hr i).get i) i (ckO_byt hr i) _
theorem getD_set {l : List Nat} {i j x : Nat} : (l.set i x).getD j 0 = if i = j ∧ i < l.length then x else l.getD j 0 := by
  simp only [List.getD_eq_getElem?_getD, List.getElem?_set]
  by_cases e : i = j
  · subst e
    by_cases h : i < l.length
    · simp [h]
    · simp [h]
  · simp [e]
theorem chkV_len (s : List Nat) : (chkV s).length = 6 := by rw [chkV, List.length_drop, ckO_len]; simp
theorem chkV_byt {s : List Nat} (h : byt s) : byt (chkV s) := (ckO_byt (h.app (byt.rep 6)) _).drop _
end Go.Proofs.Ytlbmlimaobkhpaa
/- The field of the code: what the small functions compute. -/
namespace Go.Proofs.Ytlbmlimaobkhpaa
open Go Go.Gv
set_option maxRecDepth 100000
set_option linter.unusedSimpArgs false
set_option linter.unusedVariables false
theorem mixed : Try.prog.follows .mixedOrders = true := by kernel_rfl

theorem f93 (n m : Int) (h : View) (O : Hp) : GSpec Try.prog 93 [.int .i64 n, .int .i64 m] h O (Ret O (.bool (decide (0 ≤ n ∧ n < m)))) := by
  refine GSpec.enter (fn := Try.f93) Try.func93 rfl (by kernel_rfl) ?_
  repeat' (conv => whnf
           first
           | (with_reducible refine NextSt.mk ?_)
           | (with_reducible refine OnBB.tt ?_)
           | (with_reducible refine OnBB.ff ?_)
           | ((with_reducible refine Cmp.mk ?_ ?_) <;> intro _hc))
  all_goals refine FinSt.ret (List.Sublist.refl _) (congrArg Value.bool ?_)
  all_goals simp; omega

theorem f95 (a b : Nat) (ha : a < 256) (hb : b < 256) (h : View) (O : Hp) : GSpec Try.prog 95 [iN a, iN b] h O (Ret O (iN (mul a b))) := by
  refine GSpec.enter (fn := Try.f95) Try.func95 rfl (by kernel_rfl) ?_
  repeat' (conv => whnf
           first
           | (with_reducible refine NextSt.mk ?_))
  refine LoopSt.fix [0, 1, 4, 5, 6, 7, 8, 9, 10, 11, 12, 13, 14, 15, 16, 17, 18, 19, 20] (fun | ((a, b, c) : Nat × Nat × Nat) => [(0, iN a), (1, iN b), (4, iN c)]) (fun _ => _) (fun | (a', b', c') => a' < 256 ∧ b' < 256 ∧ c' < 256 ∧ ∃ n, b' < 2 ^ n ∧ tms n a' b' c' = mul a b) (fun | (_, b, _) => b) ((a, b, 0)) _ (Wk.refl _ _) (rfl) ?_ ?_ ?_
  · repeat' (first | exact True.intro | refine And.intro ?_ ?_ | rfl)
  · exact ⟨ha, hb, by show 0 < 256; decide, 8, hb, rfl⟩
  · rintro ⟨a, b, c⟩ d ⟨ha, hb, hc, n, hn, he⟩
    repeat' (conv => whnf
             first
             | (with_reducible refine NextSt.mk ?_)
             | (with_reducible refine OnBB.tt ?_)
             | (with_reducible refine OnBB.ff ?_)
             | ((with_reducible apply Bits.and1N); (· with_reducible rfl); (· (omega)))
             | ((with_reducible apply Bits.xorN); (· with_reducible rfl); (· first | with_reducible rfl | exact natL _); (· (omega)))
             | ((with_reducible apply ShSt.shrN); (· with_reducible rfl); (· exact natL _); (· (simp only [IntKind.bits]; omega)))
             | ((with_reducible apply ShSt.shlN); (· with_reducible rfl); (· exact natL _); (· omega); (· omega))
             | ((with_reducible refine Cmp.mk ?_ ?_) <;> intro _hc))
    all_goals first
      | (have h0 : b = 0 := by omega
         subst h0
         rw [tms_zero] at he
         exact FinSt.ret (List.Sublist.refl _) (by rw [he]))
      | skip
    all_goals
      have hn1 : ∃ m, n = m + 1 := by
        cases n with
        | zero => omega
        | succ m => exact ⟨m, rfl⟩
      obtain ⟨m, rfl⟩ := hn1
      rw [tms] at he
      have hx : xt a = if 256 ≤ a * 2 ^ 1 then a * 2 ^ 1 ^^^ 285 else a * 2 ^ 1 := by
        unfold xt bt
        by_cases h1 : 256 ≤ a * 2 ^ 1
        · rw [if_pos (by omega), if_pos h1]
        · rw [if_neg (by omega), if_neg h1, Nat.xor_zero]
      have hy : c ^^^ bt b 0 a = if b % 2 = 1 then c ^^^ a else c := by
        unfold bt
        by_cases h1 : b % 2 = 1
        · rw [if_pos (by simpa using h1), if_pos h1]
        · rw [if_neg (by simpa using h1), if_neg h1, Nat.xor_zero]
      refine RoundFix.mk ((xt a, b / 2, c ^^^ bt b 0 a)) ?_ ?_ _ rfl (Wk.drop (by (try dsimp only); (try simp only [List.cons_append, List.nil_append]); (repeat (with_reducible exact List.Sublist.refl _)))) ?_
      · show b / 2 < b; omega
      · repeat' (first | exact True.intro | refine And.intro ?_ ?_ | (refine congrArg iN (?_ : (_ : Nat) = _); first | omega | (rw [hx]; split <;> omega) | (rw [hy]; split <;> omega)) | rfl)
      · exact ⟨xt_lt ha, by omega, xor_lt hc (bt_lt ha), m, by rw [Nat.pow_succ] at hn; omega, he⟩

theorem f149 (a n : Nat) (ha : a < 256) (hn : n < 1000) (h : View) (O : Hp) : GSpec Try.prog 149 [iN a, iN n] h O (Ret O (iN (pw a n))) := by
  refine GSpec.enter (fn := Try.f149) Try.func149 rfl (by kernel_rfl) ?_
  repeat' (conv => whnf
           first
           | (with_reducible refine NextSt.mk ?_))
  refine LoopSt.fix [5, 7, 8, 9, 10, 11, 12] (fun (k : Nat) => [(5, iN (pw a k)), (7, iN k)]) (fun _ => _) (fun k => k ≤ n) (fun k => n - k) (0) _ (Wk.refl _ _) (rfl) ?_ ?_ ?_
  · repeat' (first | exact True.intro | refine And.intro ?_ ?_ | rfl)
  · exact Nat.zero_le _
  · intro k d hk
    have hp := pw_lt (a := a) k
    repeat' (conv => whnf
             first
             | ((with_reducible apply CallSt.rd (f := 95)); · (apply GSpec.cast (sp := f95 _ _ ?_ ?_ _ _); (· (repeat' (with_reducible rfl))); all_goals (with_reducible assumption)))
             | (with_reducible refine NextSt.mk ?_)
             | (with_reducible refine OnBB.tt ?_)
             | (with_reducible refine OnBB.ff ?_)
             | ((with_reducible apply NW.addN); (· with_reducible rfl); (· exact natL _); (· omega))
             | ((with_reducible refine Cmp.mk ?_ ?_) <;> intro _hc))
    · refine RoundFix.mk (k + 1) ?_ ?_ _ rfl (Wk.drop (by (try dsimp only); (try simp only [List.cons_append, List.nil_append]); (repeat (with_reducible exact List.Sublist.refl _)))) ?_
      · omega
      · repeat' (first | exact True.intro | refine And.intro ?_ ?_ | rfl)
      · omega
    · have : k = n := by omega
      subst this
      exact FinSt.ret (List.Sublist.refl _) rfl

theorem f96 (a : Nat) (ha : a < 256) (h : View) (O : Hp) : GSpec Try.prog 96 [iN a] h O (Ret O (iN (inv a))) := by
  refine GSpec.enter (fn := Try.f96) Try.func96 rfl (by kernel_rfl) ?_
  repeat' (conv => whnf
           first
           | ((with_reducible apply CallSt.rd (f := 149)); · (apply GSpec.cast (sp := f149 _ _ ?_ ?_ _ _); (· (repeat' (rfl))); all_goals (first | with_reducible assumption | decide)))
           | (with_reducible refine NextSt.mk ?_))
  exact FinSt.ret (List.Sublist.refl _) rfl

/-- What Times answers. -/
def timesV (a b : Int) : Int × Int := if 0 ≤ a ∧ a < 256 ∧ 0 ≤ b ∧ b < 256 then (mul a.toNat b.toNat, 0) else (0, 1)
def invV (a : Int) : Int × Int := if 0 < a ∧ a < 256 then (inv a.toNat, 0) else (0, 1)
def i2 (p : Int × Int) : Value := .tuple ⟨[.int .i64 p.1, .int .i64 p.2]⟩

theorem nat_of {a : Int} (h : 0 ≤ a) : ∃ n : Nat, a = n := ⟨a.toNat, by omega⟩

theorem f25 (a b : Int) (h : View) (O : Hp) : GSpec Try.prog 25 [.int .i64 a, .int .i64 b] h O (Ret O (i2 (timesV a b))) := by
  by_cases hab : 0 ≤ a ∧ a < 256 ∧ 0 ≤ b ∧ b < 256
  · obtain ⟨⟨a, rfl⟩, ⟨b, rfl⟩⟩ : (∃ n : Nat, a = n) ∧ ∃ n : Nat, b = n := ⟨nat_of hab.1, nat_of hab.2.2.1⟩
    have e : timesV a b = (((mul a b : Nat) : Int), 0) := if_pos hab
    rw [e]
    refine GSpec.enter (fn := Try.f25) Try.func25 rfl (by kernel_rfl) ?_
    repeat' (conv => whnf
             first
             | ((with_reducible apply CallSt.decY (f := 93)); (· (apply GSpec.cast (sp := f93 _ _ _ _); (· (repeat' (with_reducible rfl))); all_goals (fail))); · omega)
             | ((with_reducible apply CallSt.rd (f := 95)); · (apply GSpec.cast (sp := f95 _ _ ?_ ?_ _ _); (· (repeat' (rfl))); all_goals (omega)))
             | (with_reducible refine NextSt.mk ?_)
             | (with_reducible refine OnBB.tt ?_)
             | (with_reducible refine OnBB.ff ?_))
    all_goals exact FinSt.ret (List.Sublist.refl _) rfl
  · have e : timesV a b = (0, 1) := if_neg hab
    rw [e]
    refine GSpec.enter (fn := Try.f25) Try.func25 rfl (by kernel_rfl) ?_
    repeat' (conv => whnf
             first
             | ((with_reducible apply CallSt.decN (f := 93)); (· (apply GSpec.cast (sp := f93 _ _ _ _); (· (repeat' (with_reducible rfl))); all_goals (fail))); · omega)
             | ((with_reducible apply CallSt.dec (f := 93)); (· (apply GSpec.cast (sp := f93 _ _ _ _); (· (repeat' (with_reducible rfl))); all_goals (fail))); all_goals intro _hc)
             | (with_reducible refine NextSt.mk ?_)
             | (with_reducible refine OnBB.tt ?_)
             | (with_reducible refine OnBB.ff ?_))
    all_goals exact FinSt.ret (List.Sublist.refl _) rfl

theorem f26 (a : Int) (h : View) (O : Hp) : GSpec Try.prog 26 [.int .i64 a] h O (Ret O (i2 (invV a))) := by
  by_cases hab : 0 < a ∧ a < 256
  · obtain ⟨a, rfl⟩ : ∃ n : Nat, a = n := nat_of (by omega)
    have e : invV a = (((inv a : Nat) : Int), 0) := if_pos hab
    rw [e]
    refine GSpec.enter (fn := Try.f26) Try.func26 rfl (by kernel_rfl) ?_
    repeat' (conv => whnf
             first
             | ((with_reducible apply CallSt.decY (f := 93)); (· (apply GSpec.cast (sp := f93 _ _ _ _); (· (repeat' (with_reducible rfl))); all_goals (fail))); · omega)
             | ((with_reducible apply CallSt.rd (f := 96)); · (apply GSpec.cast (sp := f96 _ ?_ _ _); (· (repeat' (rfl))); all_goals (omega)))
             | (with_reducible refine NextSt.mk ?_)
             | (with_reducible refine OnBB.tt ?_)
             | (with_reducible refine OnBB.ff ?_)
             | ((with_reducible apply Cmp.no); · omega))
    all_goals exact FinSt.ret (List.Sublist.refl _) rfl
  · have e : invV a = (0, 1) := if_neg hab
    rw [e]
    refine GSpec.enter (fn := Try.f26) Try.func26 rfl (by kernel_rfl) ?_
    repeat' (conv => whnf
             first
             | ((with_reducible apply CallSt.decN (f := 93)); (· (apply GSpec.cast (sp := f93 _ _ _ _); (· (repeat' (with_reducible rfl))); all_goals (fail))); · omega)
             | (with_reducible refine NextSt.mk ?_)
             | (with_reducible refine OnBB.tt ?_)
             | (with_reducible refine OnBB.ff ?_)
             | ((with_reducible refine Cmp.mk ?_ ?_) <;> intro _hc))
    all_goals exact FinSt.ret (List.Sublist.refl _) rfl

/-! ## the reference -/
theorem f97 (n : Int) (h : View) (O : Hp) : GSpec Try.prog 97 [.int .i64 n] h O (Ret O (.bool (decide (0 ≤ n ∧ n < 256)))) := by
  refine GSpec.enter (fn := Try.f97) Try.func97 rfl (by kernel_rfl) ?_
  repeat' (conv => whnf
           first
           | (with_reducible refine NextSt.mk ?_)
           | (with_reducible refine OnBB.tt ?_)
           | (with_reducible refine OnBB.ff ?_)
           | ((with_reducible refine Cmp.mk ?_ ?_) <;> intro _hc))
  all_goals refine FinSt.ret (List.Sublist.refl _) (congrArg Value.bool ?_)
  all_goals simp; omega

theorem f98 (a b : Nat) (ha : a < 256) (hb : b < 256) (h : View) (O : Hp) : GSpec Try.prog 98 [iN a, iN b] h O (Ret O (iN (mul a b))) := by
  rw [← rmul_eq ha hb]
  refine GSpec.enter (fn := Try.f98) Try.func98 rfl (by kernel_rfl) ?_
  repeat' (conv => whnf
           first
           | (with_reducible refine NextSt.mk ?_))
  refine LoopSt.fix [5, 6, 8, 9, 10, 11, 12, 13, 14, 15, 16, 17, 18, 19, 20, 21] (fun (k : Nat) => [(5, iN (rt1 a b k)), (6, iN k)]) (fun _ => _) (fun k => k ≤ 8) (fun k => 8 - k) (0) _ (Wk.refl _ _) (rfl) ?_ ?_ ?_
  · repeat' (first | exact True.intro | refine And.intro ?_ ?_ | rfl)
  · exact Nat.zero_le _
  · intro k d hk
    have h1 := rt1_lt b ha k hk
    repeat' (conv => whnf
             first
             | (with_reducible refine NextSt.mk ?_)
             | (with_reducible refine OnBB.tt ?_)
             | (with_reducible refine OnBB.ff ?_)
             | ((with_reducible apply NW.addN); (· with_reducible rfl); (· exact natL _); (· omega))
             | ((with_reducible apply Bits.and1N); (· with_reducible rfl); (· (exact Nat.le_trans (Nat.div_le_self _ _) (by omega))))
             | ((with_reducible apply Bits.xorN); (· with_reducible rfl); (· with_reducible rfl); (· ((refine ⟨?_, ?_⟩ <;> (first | omega | (apply shl_le <;> omega))))))
             | ((with_reducible apply ShSt.shrN); (· with_reducible rfl); (· with_reducible rfl); (· (simp only [IntKind.bits]; omega)))
             | ((with_reducible apply ShSt.shlS); (· with_reducible rfl); (· with_reducible rfl); (· omega); (· omega))
             | ((with_reducible refine Cmp.mk ?_ ?_) <;> intro _hc))
    · refine RoundFix.mk (k + 1) ?_ ?_ _ rfl (Wk.drop (by (try dsimp only); (try simp only [List.cons_append, List.nil_append]); (repeat (with_reducible exact List.Sublist.refl _)))) ?_
      · omega
      · have e : rt1 a b (k + 1) = rt1 a b k ^^^ a * 2 ^ k := by rw [rt1, bt, if_pos (by omega)]
        rw [e]
        repeat' (first | exact True.intro | refine And.intro ?_ ?_ | rfl)
      · omega
    · refine RoundFix.mk (k + 1) ?_ ?_ _ rfl (Wk.drop (by (try dsimp only); (try simp only [List.cons_append, List.nil_append]); (repeat (with_reducible exact List.Sublist.refl _)))) ?_
      · omega
      · have e : rt1 a b (k + 1) = rt1 a b k := by rw [rt1, bt, if_neg (by omega), Nat.xor_zero]
        rw [e]
        repeat' (first | exact True.intro | refine And.intro ?_ ?_ | rfl)
      · omega
    · have : k = 8 := by omega
      subst this
      refine LoopSt.fix [5, 7, 22, 23, 24, 25, 26, 27, 28, 29, 30, 31, 32, 33, 34, 35] (fun (k : Nat) => [(5, iN (rt2 (rt1 a b 8) k)), (7, iN (14 - k))]) (fun _ => _) (fun k => k ≤ 7) (fun k => 7 - k) (0) _ (Wk.refl _ _) (rfl) ?_ ?_ ?_
      · repeat' (first | exact True.intro | refine And.intro ?_ ?_ | rfl)
      · exact Nat.zero_le _
      · intro k d hk
        have h2 := rt2_lt h1 k
        repeat' (conv => whnf
                 first
                 | (with_reducible refine NextSt.mk ?_)
                 | (with_reducible refine OnBB.tt ?_)
                 | (with_reducible refine OnBB.ff ?_)
                 | ((with_reducible apply NW.subN); (· with_reducible rfl); (· exact natL _); (· omega))
                 | ((with_reducible apply Bits.and1N); (· with_reducible rfl); (· (exact Nat.le_trans (Nat.div_le_self _ _) (by omega))))
                 | ((with_reducible apply Bits.xorN); (· with_reducible rfl); (· with_reducible rfl); (· ((refine ⟨?_, ?_⟩ <;> (first | omega | (apply shl_le <;> omega))))))
                 | ((with_reducible apply ShSt.shrN); (· with_reducible rfl); (· with_reducible rfl); (· (simp only [IntKind.bits]; omega)))
                 | ((with_reducible apply ShSt.shlS); (· exact natL _); (· with_reducible rfl); (· omega); (· omega))
                 | ((with_reducible refine Cmp.mk ?_ ?_) <;> intro _hc))
        · refine RoundFix.mk (k + 1) ?_ ?_ _ rfl (Wk.drop (by (try dsimp only); (try simp only [List.cons_append, List.nil_append]); (repeat (with_reducible exact List.Sublist.refl _)))) ?_
          · omega
          · have e : rt2 (rt1 a b 8) (k + 1) = rt2 (rt1 a b 8) k ^^^ 285 * 2 ^ (14 - k - 8) := by rw [rt2, bt, if_pos (by omega)]; congr 3; omega
            rw [e]
            repeat' (first | exact True.intro | refine And.intro ?_ ?_ | rfl)
          · omega
        · refine RoundFix.mk (k + 1) ?_ ?_ _ rfl (Wk.drop (by (try dsimp only); (try simp only [List.cons_append, List.nil_append]); (repeat (with_reducible exact List.Sublist.refl _)))) ?_
          · omega
          · have e : rt2 (rt1 a b 8) (k + 1) = rt2 (rt1 a b 8) k := by rw [rt2, bt, if_neg (by omega), Nat.xor_zero]
            rw [e]
            repeat' (first | exact True.intro | refine And.intro ?_ ?_ | rfl)
          · omega
        · have : k = 7 := by omega
          subst this
          exact FinSt.ret (List.Sublist.refl _) rfl
end Go.Proofs.Ytlbmlimaobkhpaa
/- The code: what the functions on words compute. -/
namespace Go.Proofs.Ytlbmlimaobkhpaa
open Go Go.Gv
set_option maxRecDepth 100000
set_option linter.unusedSimpArgs false
set_option linter.unusedVariables false

theorem f99 (a : Nat) (ha : a < 256) (h0 : a ≠ 0) (h : View) (O : Hp) : GSpec Try.prog 99 [iN a] h O (Ret O (iN (inv a))) := by
  refine GSpec.enter (fn := Try.f99) Try.func99 rfl (by kernel_rfl) ?_
  repeat' (conv => whnf
           first
           | (with_reducible refine NextSt.mk ?_))
  refine LoopSt.fix [2, 3, 4, 5, 6, 7, 8, 9, 10, 11, 12] (fun (k : Nat) => [(2, .int .i64 0), (3, iN k)]) (fun _ => _) (fun k => 1 ≤ k ∧ k ≤ 256 ∧ ∀ j < k, 1 ≤ j → mul a j ≠ 1) (fun k => 256 - k) (1) _ (Wk.refl _ _) (rfl) ?_ ?_ ?_
  · repeat' (first | exact True.intro | refine And.intro ?_ ?_ | rfl)
  · exact ⟨Nat.le_refl _, by omega, fun j h1 h2 => by omega⟩
  · rintro k d ⟨h1, h2, h3⟩
    repeat' (conv => whnf
             first
             | ((with_reducible apply CallSt.rd (f := 98)); · (apply GSpec.cast (sp := f98 _ _ ?_ ?_ _ _); (· (repeat' (with_reducible rfl))); all_goals (first | with_reducible assumption | omega)))
             | (with_reducible refine NextSt.mk ?_)
             | (with_reducible refine OnBB.tt ?_)
             | (with_reducible refine OnBB.ff ?_)
             | ((with_reducible apply NW.addN); (· with_reducible rfl); (· exact natL _); (· omega))
             | ((with_reducible refine Cmp.mk ?_ ?_) <;> intro _hc))
    · refine FinSt.ret (by (try dsimp only); (try simp only [List.cons_append, List.nil_append]); (repeat (with_reducible exact List.Sublist.refl _))) ?_
      have e : mul a k = 1 := by omega
      have hk : k < 256 := by omega
      have : k = inv a := by
        have e2 := mul_assoc (inv_lt a) ha hk
        rw [e, mul_comm (inv_lt a) ha, mul_inv ha h0, one_mul hk, mul_one (inv_lt a)] at e2
        exact e2
      rw [this]
    · refine RoundFix.mk (k + 1) ?_ ?_ _ rfl (Wk.drop (by (try dsimp only); (try simp only [List.cons_append, List.nil_append]); (repeat (with_reducible exact List.Sublist.refl _)))) ?_
      · omega
      · repeat' (first | exact True.intro | refine And.intro ?_ ?_ | rfl)
      · refine ⟨by omega, by omega, fun j hj hj1 => ?_⟩
        by_cases hjk : j = k
        · subst hjk; omega
        · exact h3 j (by omega) hj1
    · exfalso
      exact h3 (inv a) (by have := inv_lt a; omega) (by
        rcases Nat.eq_zero_or_pos (inv a) with h4 | h4
        · have := mul_inv ha h0
          rw [h4, mul_zero] at this; omega
        · exact h4) (mul_inv ha h0)

theorem f27 (a b : Int) (h : View) (O : Hp) : GSpec Try.prog 27 [.int .i64 a, .int .i64 b] h O (Ret O (i2 (timesV a b))) := by
  by_cases hab : 0 ≤ a ∧ a < 256 ∧ 0 ≤ b ∧ b < 256
  · obtain ⟨⟨a, rfl⟩, ⟨b, rfl⟩⟩ : (∃ n : Nat, a = n) ∧ ∃ n : Nat, b = n := ⟨nat_of hab.1, nat_of hab.2.2.1⟩
    have e : timesV a b = (((mul a b : Nat) : Int), 0) := if_pos hab
    rw [e]
    refine GSpec.enter (fn := Try.f27) Try.func27 rfl (by kernel_rfl) ?_
    repeat' (conv => whnf
             first
             | ((with_reducible apply CallSt.decY (f := 97)); (· (apply GSpec.cast (sp := f97 _ _ _); (· (repeat' (with_reducible rfl))); all_goals (fail))); · omega)
             | ((with_reducible apply CallSt.rd (f := 98)); · (apply GSpec.cast (sp := f98 _ _ ?_ ?_ _ _); (· (repeat' (rfl))); all_goals (omega)))
             | (with_reducible refine NextSt.mk ?_)
             | (with_reducible refine OnBB.tt ?_)
             | (with_reducible refine OnBB.ff ?_))
    all_goals exact FinSt.ret (List.Sublist.refl _) rfl
  · have e : timesV a b = (0, 1) := if_neg hab
    rw [e]
    refine GSpec.enter (fn := Try.f27) Try.func27 rfl (by kernel_rfl) ?_
    repeat' (conv => whnf
             first
             | ((with_reducible apply CallSt.decN (f := 97)); (· (apply GSpec.cast (sp := f97 _ _ _); (· (repeat' (with_reducible rfl))); all_goals (fail))); · omega)
             | ((with_reducible apply CallSt.dec (f := 97)); (· (apply GSpec.cast (sp := f97 _ _ _); (· (repeat' (with_reducible rfl))); all_goals (fail))); all_goals intro _hc)
             | (with_reducible refine NextSt.mk ?_)
             | (with_reducible refine OnBB.tt ?_)
             | (with_reducible refine OnBB.ff ?_))
    all_goals exact FinSt.ret (List.Sublist.refl _) rfl

theorem f28 (a : Int) (h : View) (O : Hp) : GSpec Try.prog 28 [.int .i64 a] h O (Ret O (i2 (invV a))) := by
  by_cases hab : 0 < a ∧ a < 256
  · obtain ⟨a, rfl⟩ : ∃ n : Nat, a = n := nat_of (by omega)
    have e : invV a = (((inv a : Nat) : Int), 0) := if_pos hab
    rw [e]
    refine GSpec.enter (fn := Try.f28) Try.func28 rfl (by kernel_rfl) ?_
    repeat' (conv => whnf
             first
             | ((with_reducible apply CallSt.decY (f := 97)); (· (apply GSpec.cast (sp := f97 _ _ _); (· (repeat' (with_reducible rfl))); all_goals (fail))); · omega)
             | ((with_reducible apply CallSt.rd (f := 99)); · (apply GSpec.cast (sp := f99 _ ?_ ?_ _ _); (· (repeat' (rfl))); all_goals (omega)))
             | (with_reducible refine NextSt.mk ?_)
             | (with_reducible refine OnBB.tt ?_)
             | (with_reducible refine OnBB.ff ?_)
             | ((with_reducible apply Cmp.no); · omega))
    all_goals exact FinSt.ret (List.Sublist.refl _) rfl
  · have e : invV a = (0, 1) := if_neg hab
    rw [e]
    refine GSpec.enter (fn := Try.f28) Try.func28 rfl (by kernel_rfl) ?_
    repeat' (conv => whnf
             first
             | ((with_reducible apply CallSt.dec (f := 97)); (· (apply GSpec.cast (sp := f97 _ _ _); (· (repeat' (with_reducible rfl))); all_goals (fail))); all_goals intro _hc)
             | (with_reducible refine NextSt.mk ?_)
             | (with_reducible refine OnBB.tt ?_)
             | (with_reducible refine OnBB.ff ?_)
             | ((with_reducible apply Cmp.yes); · omega))
    all_goals exact FinSt.ret (List.Sublist.refl _) rfl

/-! ### the generator -/
theorem f145 (h : View) (O : Hp) : GSpec Try.prog 145 [] h O (New O fun v H => ∃ a, v = .slice a 7 7 ∧ Rd h H a ((gens 6).map iN)) := by
  refine GSpec.enter (fn := Try.f145) Try.func145 rfl (by kernel_rfl) ?_
  repeat' (conv => whnf
           first
           | (with_reducible refine NextSt.mk ?_)
           | ((with_reducible refine AllocSt.mk ?_); intro _b _hb _hbO))
  refine LoopSt.fix [1, 2, 3, 4, 5, 7, 8, 9, 10, 11, 12, 13, 14, 15, 16, 17, 18, 19, 20, 21, 22, 23, 24, 25, 26, 27, 28, 29, 30, 31, 32, 33, 34, 35, 36, 37, 38, 39, 40, 41] (fun ((j, b) : Nat × Nat) => [(1, .slice (some ⟨b, 0, none⟩) (j + 1) (j + 1)), (7, iN j)]) (fun (j, b) => (b, .cells ⟨(gens j).map iN⟩ 3 (0, 0)) :: O) (fun (j, b) => j ≤ 6) (fun (j, b) => 6 - j) ((0, _)) _ (Wk.refl _ _) (rfl) ?_ ?_ ?_
  · repeat' (first | exact True.intro | refine And.intro ?_ ?_ | rfl)
  · exact Nat.zero_le _
  · rintro ⟨j, b⟩ d hj
    dsimp only at hj ⊢
    have hl := gens_len j
    have hs := gens_small j
    repeat' (conv => whnf
             first
             | (with_reducible refine NextSt.mk ?_)
             | (with_reducible refine OnBB.tt ?_)
             | (with_reducible refine OnBB.ff ?_)
             | ((with_reducible apply NW.addN); (· with_reducible rfl); (· exact natL _); (· omega))
             | ((with_reducible apply MakeSt.iN); (· rfl); (· rfl); (· with_reducible rfl); (· with_reducible rfl); (· (show 8 * _ ≤ _; omega)); (· omega); intro _b _hb _hbO)
             | ((with_reducible refine Cmp.mk ?_ ?_) <;> intro _hc))
    · refine LoopSt.fix [4, 5, 16, 17, 18, 19, 20, 21, 22, 23, 24, 25, 26, 27, 28, 29, 30, 31, 32, 33, 34, 35, 36, 37, 38, 39] (fun (i : Nat) => [(16, iN i)]) (fun i => (_b, .cells ⟨(nx (gens j) (pw 2 j) i).map iN⟩ 3 (0, 0)) :: (b, .cells ⟨(gens j).map iN⟩ 3 (0, 0)) :: O) (fun i => i ≤ j + 1) (fun i => j + 1 - i) (0) _ (Wk.refl _ _) (by simp only [nx, hl]) ?_ ?_ ?_
      · repeat' (first | exact True.intro | refine And.intro ?_ ?_ | rfl)
      · exact Nat.zero_le _
      · intro i d hi
        have hn := nx_len (gens j) (pw 2 j) i
        have hs2 := nx_small hs (pw 2 j) i
        have k1 := hs2 i
        have k2 := hs i
        have k3 := (hs2.set i (xor_lt k1 k2)) (i + 1)
        have k4 := mul_lt (pw 2 j) k2
        have k5 := pw_lt (a := 2) j
        repeat' (conv => whnf
                 first
                 | ((with_reducible refine DrawSt.walk [0, 1, 2, 3, 4, 5, 6, 7, 8, 9, 10, 11] mixed ?_ ?_); · decide +kernel)
                 | ((with_reducible apply CallG.rd (f := 95)); · (apply GSpec.cast (sp := f95 _ _ ?_ ?_ _ _); (· (repeat' (with_reducible rfl))); all_goals (with_reducible assumption)))
                 | ((with_reducible apply CallG.rd (f := 149)); · (apply GSpec.cast (sp := f149 _ _ ?_ ?_ _ _); (· (repeat' (rfl))); all_goals (first | omega | decide)))
                 | (with_reducible refine NextSt.mk ?_)
                 | (with_reducible refine OnBB.tt ?_)
                 | (with_reducible refine OnBB.ff ?_)
                 | ((with_reducible apply NW.addN); (· with_reducible rfl); (· exact natL _); (· omega))
                 | ((with_reducible apply LoadSt.ownN); (· (repeat (first | exact List.Mem.head _ | with_reducible apply List.mem_cons_of_mem))); (· (exact Nat.zero_add _)); · (first | omega | (simp only [List.length_map, List.length_append, List.length_cons, List.length_nil, List.length_take, List.length_drop, List.length_replicate, List.length_set] at *; omega)))
                 | ((with_reducible apply StoreSt.mapd); (· (repeat (exact Upd.hd))); (· (exact Nat.zero_add _)); (· rfl); (· rfl); (· (first | omega | (simp only [List.length_map, List.length_append, List.length_cons, List.length_nil, List.length_take, List.length_drop, List.length_replicate, List.length_set] at *; omega))); · (exact Or.inl (Nat.le_refl _)))
                 | ((with_reducible apply Bits.xorN); (· with_reducible rfl); (· with_reducible rfl); (· (first | omega | (refine ⟨?_, ?_⟩ <;> (first | omega | exact Nat.le_trans (Nat.le_of_lt (show _ < 256 by assumption)) (by decide))))))
                 | ((with_reducible apply IdxSl.own1); (· rfl); (· with_reducible rfl); · (omega))
                 | ((with_reducible refine Cmp.mk ?_ ?_) <;> intro _hc))
        · refine RoundFix.mk (i + 1) ?_ ?_ _ rfl (Wk.drop (by (try dsimp only); (try simp only [List.cons_append, List.nil_append]); (repeat (first | with_reducible exact List.Sublist.refl _ | apply List.Sublist.cons_cons)))) ?_
          · omega
          · repeat' (first | exact True.intro | refine And.intro ?_ ?_ | rfl)
          · omega
        · have : i = j + 1 := by omega
          subst this
          rw [← gens_succ j]
          refine RoundFix.mk ((j + 1, _b)) ?_ ?_ _ rfl (Wk.drop (by (try dsimp only); (try simp only [List.cons_append, List.nil_append]); (repeat (first | with_reducible exact List.Sublist.refl _ | with_reducible apply List.Sublist.cons_cons | with_reducible apply List.Sublist.cons)))) ?_
          · dsimp only; omega
          · repeat' (first | exact True.intro | refine And.intro ?_ ?_ | rfl)
          · dsimp only; omega
    · have : j = 6 := by omega
      subst this
      refine FinSt.new (H := [(b, .cells ⟨(gens 6).map iN⟩ 3 (0, 0))]) (List.Sublist.refl _) ?_
      exact ⟨some ⟨b, 0, none⟩, rfl, Rd.own0 (List.Mem.head _)⟩
end Go.Proofs.Ytlbmlimaobkhpaa
/- Words: their values, distances, checks. -/
namespace Go.Proofs.Ytlbmlimaobkhpaa
open Go Go.Gv
set_option maxRecDepth 100000
set_option linter.unusedSimpArgs false
set_option linter.unusedVariables false

theorem nb_len (s : List UInt8) : (nb s).length = s.length := List.length_map _
theorem nb_byt (s : List UInt8) : byt (nb s) := byt.map s
theorem f151 (n : Nat) (hn : n < 1000) (h : View) (O : Hp) : GSpec Try.prog 151 [iN n] h O (Ret O (iN (pw 2 n))) := by
  refine GSpec.enter (fn := Try.f151) Try.func151 rfl (by kernel_rfl) ?_
  repeat' (conv => whnf
           first
           | (with_reducible refine NextSt.mk ?_))
  refine LoopSt.fix [3, 4, 5, 6, 7, 8, 9, 10, 11] (fun (k : Nat) => [(3, iN (pw 2 k)), (4, iN k)]) (fun _ => _) (fun k => k ≤ n) (fun k => n - k) (0) _ (Wk.refl _ _) (rfl) ?_ ?_ ?_
  · repeat' (first | exact True.intro | refine And.intro ?_ ?_ | rfl)
  · exact Nat.zero_le _
  · intro k d hk
    have hp := pw_lt (a := 2) k
    repeat' (conv => whnf
             first
             | ((with_reducible apply CallSt.rd (f := 98)); · (apply GSpec.cast (sp := f98 _ _ ?_ ?_ _ _); (· (repeat' (rfl))); all_goals (first | with_reducible assumption | decide)))
             | (with_reducible refine NextSt.mk ?_)
             | (with_reducible refine OnBB.tt ?_)
             | (with_reducible refine OnBB.ff ?_)
             | ((with_reducible apply NW.addN); (· with_reducible rfl); (· exact natL _); (· omega))
             | ((with_reducible refine Cmp.mk ?_ ?_) <;> intro _hc))
    · refine RoundFix.mk (k + 1) ?_ ?_ _ rfl (Wk.drop (by (try dsimp only); (try simp only [List.cons_append, List.nil_append]); (repeat (with_reducible exact List.Sublist.refl _)))) ?_
      · omega
      · repeat' (first | exact True.intro | refine And.intro ?_ ?_ | rfl)
      · omega
    · have : k = n := by omega
      subst this
      exact FinSt.ret (List.Sublist.refl _) rfl

theorem f150 (s : List UInt8) (a : Nat) (ha : a < 256) (hs : s.length < 1000000) (h : View) (O : Hp) : GSpec Try.prog 150 [sV s, iN a] h O (Ret O (iN (ev a (nb s)))) := by
  refine GSpec.enter (fn := Try.f150) Try.func150 rfl (by kernel_rfl) ?_
  repeat' (conv => whnf
           first
           | (with_reducible refine NextSt.mk ?_))
  refine LoopSt.fix [5, 6, 7, 8, 9, 10, 11, 12, 13, 14, 15, 16, 17, 18, 19, 20] (fun (k : Nat) => [(5, iN (evf a 0 ((nb s).take k))), (6, iN k)]) (fun _ => _) (fun k => k ≤ s.length) (fun k => s.length - k) (0) _ (Wk.refl _ _) (rfl) ?_ ?_ ?_
  · repeat' (first | exact True.intro | refine And.intro ?_ ?_ | rfl)
  · exact Nat.zero_le _
  · intro k d hk
    have h1 := evf_lt a ((nb s).take k) 0 (by decide) ((nb_byt s).take k)
    have h2 := (nb_byt s).get k
    have h3 := mul_lt a h1
    repeat' (conv => whnf
             first
             | ((with_reducible refine DrawSt.walk [0, 1, 3, 4, 5, 6, 2, 7, 8] mixed ?_ ?_); · decide +kernel)
             | ((with_reducible apply CallG.rd (f := 98)); · (apply GSpec.cast (sp := f98 _ _ ?_ ?_ _ _); (· (repeat' (with_reducible rfl))); all_goals (with_reducible assumption)))
             | (with_reducible refine NextSt.mk ?_)
             | (with_reducible refine OnBB.tt ?_)
             | (with_reducible refine OnBB.ff ?_)
             | ((with_reducible apply NW.addN); (· with_reducible rfl); (· exact natL _); (· omega))
             | ((with_reducible apply NW.i64N); (· with_reducible rfl); (· omega))
             | ((with_reducible apply Bits.xorN); (· with_reducible rfl); (· with_reducible rfl); (· (omega)))
             | ((with_reducible apply StrIdx.m); (· with_reducible rfl); · omega)
             | ((with_reducible refine Cmp.mk ?_ ?_) <;> intro _hc))
    · refine RoundFix.mk (k + 1) ?_ ?_ _ rfl (Wk.drop (by (try dsimp only); (try simp only [List.cons_append, List.nil_append]); (repeat (with_reducible exact List.Sublist.refl _)))) ?_
      · omega
      · repeat' (first | exact True.intro | refine And.intro ?_ ?_ | exact congrArg iN (evf_take a 0 (by rw [nb_len]; omega)).symm | rfl)
      · omega
    · have : k = s.length := by omega
      subst this
      refine FinSt.ret (List.Sublist.refl _) ?_
      rw [← nb_len, List.take_length]; rfl

/-! ### distance -/
theorem ap_take : ∀ {u v : List Nat} {k : Nat}, k < u.length → k < v.length → ap (u.take (k + 1)) (v.take (k + 1)) = ap (u.take k) (v.take k) + (if u.getD k 0 = v.getD k 0 then 0 else 1)
  | [], _, _, h, _ => by simp at h
  | _ :: _, [], _, _, h => by simp at h
  | a :: u, b :: v, 0, _, _ => by
    show (if a = b then 0 else 1) + ap (u.take 0) (v.take 0) = 0 + (if a = b then 0 else 1)
    rw [List.take_zero, List.take_zero]
    show (if a = b then 0 else 1) + 0 = _
    omega
  | a :: u, b :: v, k + 1, h, h' => by
    have := ap_take (u := u) (v := v) (k := k) (by simpa using h) (by simpa using h')
    show (if a = b then 0 else 1) + ap (u.take (k + 1)) (v.take (k + 1)) = ((if a = b then 0 else 1) + ap (u.take k) (v.take k)) + (if u.getD k 0 = v.getD k 0 then 0 else 1)
    omega
theorem ap_le : ∀ (u v : List Nat), ap u v ≤ u.length
  | [], v => by cases v <;> exact Nat.zero_le _
  | _ :: _, [] => Nat.zero_le _
  | a :: u, b :: v => by
    have := ap_le u v
    show (if a = b then 0 else 1) + ap u v ≤ u.length + 1
    split <;> omega
def apartV (s t : List UInt8) : Nat × Bool := if s.length = t.length then (ap (nb s) (nb t), true) else (0, false)
def nbV (p : Nat × Bool) : Value := .tuple ⟨[iN p.1, .bool p.2]⟩
theorem f32 (s t : List UInt8) (hs : s.length < 1000000) (ht : t.length < 1000000) (h : View) (O : Hp) : GSpec Try.prog 32 [sV s, sV t] h O (Ret O (nbV (apartV s t))) := by
  by_cases hst : s.length = t.length
  · have e : apartV s t = (ap (nb s) (nb t), true) := if_pos hst
    rw [e]
    refine GSpec.enter (fn := Try.f32) Try.func32 rfl (by kernel_rfl) ?_
    repeat' (conv => whnf
             first
             | (with_reducible refine NextSt.mk ?_)
             | (with_reducible refine OnBB.ff ?_)
             | ((with_reducible apply Cmp.no); · omega))
    · refine LoopSt.fix [6, 7, 13, 14, 15, 16, 17, 18, 19, 20, 21, 22, 23, 24, 25, 26, 27] (fun (k : Nat) => [(6, iN (ap ((nb s).take k) ((nb t).take k))), (7, iN k)]) (fun _ => _) (fun k => k ≤ s.length) (fun k => s.length - k) (0) _ (Wk.refl _ _) (rfl) ?_ ?_ ?_
      · repeat' (first | exact True.intro | refine And.intro ?_ ?_ | rfl)
      · exact Nat.zero_le _
      · intro k d hk
        have h1 := ap_le ((nb s).take k) ((nb t).take k)
        rw [List.length_take] at h1
        have h2 := nb_len s
        have h3 := nb_len t
        repeat' (conv => whnf
                 first
                 | ((with_reducible refine DrawSt.walk [0, 1, 2, 3, 4, 5, 6] mixed ?_ ?_); · decide +kernel)
                 | (with_reducible refine NextSt.mk ?_)
                 | (with_reducible refine OnBB.tt ?_)
                 | (with_reducible refine OnBB.ff ?_)
                 | ((with_reducible apply NW.addN); (· with_reducible rfl); (· exact natL _); (· omega))
                 | ((with_reducible apply StrIdx.m); (· with_reducible rfl); · omega)
                 | ((with_reducible refine Cmp.mk ?_ ?_) <;> intro _hc))
        · have h4 := ap_take (u := nb s) (v := nb t) (k := k) (by omega) (by omega)
          rw [if_neg (by omega)] at h4
          refine RoundFix.mk (k + 1) ?_ ?_ _ rfl (Wk.drop (by (try dsimp only); (try simp only [List.cons_append, List.nil_append]); (repeat (with_reducible exact List.Sublist.refl _)))) ?_
          · omega
          · repeat' (first | exact True.intro | refine And.intro ?_ ?_ | exact congrArg iN h4.symm | rfl)
          · omega
        · have h4 := ap_take (u := nb s) (v := nb t) (k := k) (by omega) (by omega)
          rw [if_pos (by omega)] at h4
          refine RoundFix.mk (k + 1) ?_ ?_ _ rfl (Wk.drop (by (try dsimp only); (try simp only [List.cons_append, List.nil_append]); (repeat (with_reducible exact List.Sublist.refl _)))) ?_
          · omega
          · repeat' (first | exact True.intro | refine And.intro ?_ ?_ | exact congrArg iN h4.symm | rfl)
          · omega
        · have : k = s.length := by omega
          subst this
          refine FinSt.ret (List.Sublist.refl _) ?_
          rw [List.take_of_length_le (by omega), List.take_of_length_le (by omega)]; rfl
  · have e : apartV s t = (0, false) := if_neg hst
    rw [e]
    refine GSpec.enter (fn := Try.f32) Try.func32 rfl (by kernel_rfl) ?_
    repeat' (conv => whnf
             first
             | (with_reducible refine NextSt.mk ?_)
             | (with_reducible refine OnBB.tt ?_)
             | ((with_reducible apply Cmp.yes); · omega))
    · exact FinSt.ret (List.Sublist.refl _) rfl
end Go.Proofs.Ytlbmlimaobkhpaa
/- The checks of a word. -/
namespace Go.Proofs.Ytlbmlimaobkhpaa
open Go Go.Gv
set_option maxRecDepth 100000
set_option linter.unusedSimpArgs false
set_option linter.unusedVariables false

theorem CopySt.whole {P : Program} {e : TypeId} {h : View} {O : Hp} {b n cap : Nat} {l : List UInt8} {ty : TypeId} {fr : Nat × Nat} {f : List Value → Hp} {K : Value → View → Hp → Prop} (u : Upd O b ((List.replicate (l.length + n) 0).map bN) ty fr f) (hfr : fr.2 ≤ fr.1)
    (hk : K (.int .i64 l.length) h (f ((nb l ++ List.replicate n 0).map bN))) : CopySt P e 1 (.slice (some ⟨b, 0, Option.none⟩) (l.length + n) cap) (.string ⟨⟨l⟩⟩) h O K := by
  have e1 : min l.length (l.length + n) = l.length := by omega
  refine .str u (by simp) (.inl hfr) ?_
  rw [e1]
  have e2 : (List.replicate (l.length + n) 0).take 0 ++ (l.take l.length).map UInt8.toNat ++ (List.replicate (l.length + n) 0).drop (0 + l.length) = nb l ++ List.replicate n 0 := by
    rw [List.take_zero, List.nil_append, List.take_length, List.drop_replicate]
    congr 2; omega
  rw [e2]; exact hk

/-- The check bytes of a string. -/
def ckB (s : List UInt8) : List UInt8 := (chkV (nb s)).map UInt8.ofNat
theorem ckB_len (s : List UInt8) : (ckB s).length = 6 := by rw [ckB, List.length_map, chkV_len]
theorem map_ofNat {l : List Nat} (h : byt l) : nb (l.map UInt8.ofNat) = l := by
  rw [nb, List.map_map]
  conv => rhs; rw [← List.map_id l]
  refine List.map_congr_left fun x hx => ?_
  have := h x hx
  simp; omega
theorem f88 (s : List UInt8) (hs : s.length ≤ 1000) (h : View) (O : Hp) : GSpec Try.prog 88 [sV s] h O (Ret O (sV (ckB s))) := by
  have hl0 : ∀ i, (ckO (gens 6) (nb s ++ List.replicate 6 0) i).length = s.length + 6 := fun i => by rw [ckO_len]; simp [nb_len]
  have hb0 : ∀ i, byt (ckO (gens 6) (nb s ++ List.replicate 6 0) i) := ckO_byt ((nb_byt s).app (byt.rep 6))
  refine GSpec.enter (fn := Try.f88) Try.func88 rfl (by kernel_rfl) ?_
  repeat' (conv => whnf
           first
           | (refine CopySt.whole (by (repeat (first | exact Upd.hd | apply Upd.tl))) (Nat.le_refl _) ?_)
           | (apply CallSt.new (f145 _ _); rintro _ G ⟨ga, rfl, hga⟩)
           | (with_reducible refine NextSt.mk ?_)
           | ((with_reducible apply NW.addN); (· with_reducible rfl); (· exact natL _); (· omega))
           | ((with_reducible apply MakeSt.bN); (· rfl); (· rfl); (· with_reducible rfl); (· with_reducible rfl); (· (show 1 * _ ≤ _; omega)); (· omega); intro _b _hb _hbO))
  refine LoopSt.fix [5, 6, 7, 8, 19, 20, 21, 22, 23, 24, 25, 26, 27, 28, 29, 30, 31, 32, 33, 34, 35, 36, 37, 38, 39, 40, 41, 42, 43, 44, 45, 46, 47] (fun (i : Nat) => [(19, iN i)]) (fun i => G ++ (_b, .cells ⟨(ckO (gens 6) (nb s ++ List.replicate 6 0) i).map bN⟩ 5 (0, 0)) :: O) (fun i => i ≤ s.length) (fun i => s.length - i) (0) _ (Wk.refl _ _) (rfl) ?_ ?_ ?_
  · repeat' (first | exact True.intro | refine And.intro ?_ ?_ | rfl)
  · exact Nat.zero_le _
  · intro i d hi
    have h1 := hl0 i
    have h2 := (hb0 i).get i
    repeat' (conv => whnf
             first
             | (with_reducible refine NextSt.mk ?_)
             | (with_reducible refine OnBB.tt ?_)
             | (with_reducible refine OnBB.ff ?_)
             | ((with_reducible apply NW.i64N); (· with_reducible rfl); (· omega))
             | ((with_reducible apply LoadSt.ownN); (· (repeat (first | exact List.Mem.head _ | with_reducible apply List.mem_append_right))); (· (exact Nat.zero_add _)); · (omega))
             | ((with_reducible apply IdxSl.own1); (· rfl); (· with_reducible rfl); · (omega))
             | ((with_reducible apply SlSl.lo); (· with_reducible rfl); (· (omega)); (· (omega)))
             | ((with_reducible refine Cmp.mk ?_ ?_) <;> intro _hc))
    · refine LoopSt.fix [7, 8, 29, 30, 31, 32, 33, 34, 35, 36, 37, 38, 39, 40, 41, 42, 43, 44, 45, 46] (fun (k : Nat) => [(29, iN k)]) (fun k => G ++ (_b, .cells ⟨(ckI (gens 6) ((ckO (gens 6) (nb s ++ List.replicate 6 0) i).getD i 0) i (ckO (gens 6) (nb s ++ List.replicate 6 0) i) k).map bN⟩ 5 (0, 0)) :: O) (fun k => k ≤ 7) (fun k => 7 - k) (0) _ (Wk.refl _ _) (rfl) ?_ ?_ ?_
      · repeat' (first | exact True.intro | refine And.intro ?_ ?_ | rfl)
      · exact Nat.zero_le _
      · intro k d hk
        have h3 := ckI_len (gens 6) ((ckO (gens 6) (nb s ++ List.replicate 6 0) i).getD i 0) i (ckO (gens 6) (nb s ++ List.replicate 6 0) i) k
        have h4 := gens_len 6
        have h5 := gens_small 6 k
        have h6 := (ckI_byt (g := gens 6) h2 i (hb0 i) k).get (i + k)
        have h7 := mul_lt ((gens 6).getD k 0) h2
        repeat' (conv => whnf
                 first
                 | ((with_reducible refine DrawSt.walk [0, 1, 2, 3, 4, 5, 6, 7, 8, 9, 10, 11, 12] mixed ?_ ?_); · decide +kernel)
                 | ((with_reducible apply CallG.rd (f := 95)); · (apply GSpec.cast (sp := f95 _ _ ?_ ?_ _ _); (· (repeat' (rfl))); all_goals (with_reducible assumption)))
                 | (with_reducible refine NextSt.mk ?_)
                 | (with_reducible refine OnBB.tt ?_)
                 | (with_reducible refine OnBB.ff ?_)
                 | ((with_reducible apply NW.addN); (· with_reducible rfl); (· first | with_reducible rfl | exact natL _); (· omega))
                 | ((with_reducible apply NW.u8N); (· with_reducible rfl); (· omega))
                 | ((with_reducible apply LoadSt.ownN); (· (repeat (first | exact List.Mem.head _ | with_reducible apply List.mem_append_right | with_reducible apply List.mem_cons_of_mem))); (· (exact Nat.zero_add _)); · (omega))
                 | ((with_reducible apply LoadSt.rdN); (· (repeat ((with_reducible apply Rd.appL; with_reducible assumption)))); · (omega))
                 | ((with_reducible apply StoreSt.mapd); (· (repeat (first | exact Upd.hd | apply Upd.app))); (· (exact Nat.zero_add _)); (· rfl); (· rfl); (· (omega)); · (exact Or.inl (Nat.le_refl _)))
                 | ((with_reducible apply Bits.xor8N); (· with_reducible rfl); (· with_reducible rfl); (· omega))
                 | ((with_reducible apply IdxSl.own1); (· rfl); (· with_reducible rfl); · (omega))
                 | ((with_reducible apply IdxSl.rd1); (· with_reducible assumption); (· rfl); (· with_reducible rfl); (· (omega)); · ((simp only [List.length_map, List.length_append, List.length_cons, List.length_nil, List.length_take, List.length_drop, List.length_replicate, List.length_set] at *; omega)))
                 | ((with_reducible refine Cmp.mk ?_ ?_) <;> intro _hc))
        · refine RoundFix.mk (k + 1) ?_ ?_ _ rfl (Wk.drop (by (try dsimp only); (try simp only [List.cons_append, List.nil_append]); (repeat (first | with_reducible exact List.Sublist.refl _ | with_reducible apply sub_app | apply List.Sublist.cons_cons)))) ?_
          · omega
          · repeat' (first | exact True.intro | refine And.intro ?_ ?_ | rfl)
          · omega
        · have : k = 7 := by omega
          subst this
          refine RoundFix.mk (i + 1) ?_ ?_ _ rfl (Wk.drop (by (try dsimp only); (try simp only [List.cons_append, List.nil_append]); (repeat (first | with_reducible exact List.Sublist.refl _ | with_reducible apply sub_app | apply List.Sublist.cons_cons)))) ?_
          · omega
          · repeat' (first | exact True.intro | refine And.intro ?_ ?_ | rfl)
          · omega
    · have : i = s.length := by omega
      subst this
      refine ToStr.bytes (l := chkV (nb s)) ?_ (chkV_byt (nb_byt s)) (by rw [chkV_len]; omega) ?_
      · have h3 : Rd h (G ++ (_b, Obj.cells ⟨(ckO (gens 6) (nb s ++ List.replicate 6 0) s.length).map bN⟩ 5 (0, 0)) :: O) (some ⟨_b, 0, none⟩) ((ckO (gens 6) (nb s ++ List.replicate 6 0) s.length).map bN) := Rd.appR (Rd.own0 (List.Mem.head _))
        have h4 := h3.slice s.length (s.length + 6) 1 (fun e => by omega)
        rw [show ∀ X : List Nat, (X.map bN).drop (s.length * 1) = (X.drop s.length).map bN from fun X => by rw [Nat.mul_one, List.map_drop]] at h4
        have e5 : chkV (nb s) = (ckO (gens 6) (nb s ++ List.replicate 6 0) s.length).drop s.length := by rw [chkV, nb_len]
        rw [e5]; exact h4
      · repeat' (conv => whnf
                 first
                 | (with_reducible refine NextSt.mk ?_))
        exact FinSt.ret (by (try dsimp only); (try simp only [List.cons_append, List.nil_append]); (repeat (first | with_reducible exact List.Sublist.refl _ | with_reducible apply List.Sublist.cons | with_reducible apply sub_skip))) rfl

def strE (p : List UInt8 × Int) : Value := .tuple ⟨[sV p.1, .int .i64 p.2]⟩
def checksV (s : List UInt8) : List UInt8 × Int := if s.length ≤ 249 then (ckB s, 0) else ([], 2)
theorem f29 (s : List UInt8) (hs : s.length ≤ 1000000) (h : View) (O : Hp) : GSpec Try.prog 29 [sV s] h O (Ret O (strE (checksV s))) := by
  by_cases hl : s.length ≤ 249
  · have e : checksV s = (ckB s, 0) := if_pos hl
    rw [e]
    refine GSpec.enter (fn := Try.f29) Try.func29 rfl (by kernel_rfl) ?_
    repeat' (conv => whnf
             first
             | (apply CallSt.rd (f88 _ (by omega) _ _))
             | (with_reducible refine NextSt.mk ?_)
             | (with_reducible refine OnBB.ff ?_)
             | ((with_reducible apply Cmp.no); · omega))
    exact FinSt.ret (List.Sublist.refl _) rfl
  · have e : checksV s = ([], 2) := if_neg hl
    rw [e]
    refine GSpec.enter (fn := Try.f29) Try.func29 rfl (by kernel_rfl) ?_
    repeat' (conv => whnf
             first
             | (with_reducible refine NextSt.mk ?_)
             | (with_reducible refine OnBB.tt ?_)
             | ((with_reducible apply Cmp.yes); · omega))
    exact FinSt.ret (List.Sublist.refl _) rfl
end Go.Proofs.Ytlbmlimaobkhpaa
/- The checks of a word in the reference. -/
namespace Go.Proofs.Ytlbmlimaobkhpaa
open Go Go.Gv
set_option maxRecDepth 100000
set_option linter.unusedSimpArgs false
set_option linter.unusedVariables false

theorem map_take_succ (g : Nat → Value) {w : List Nat} {k : Nat} (h : k < w.length) : (w.take k ++ [w.getD k 0]).map g = (w.take (k + 1)).map g := by rw [← take_succ h]

end Go.Proofs.Ytlbmlimaobkhpaa
/- What is wrong with a word: the program's search. -/
namespace Go.Proofs.Ytlbmlimaobkhpaa
open Go Go.Gv
set_option maxRecDepth 100000
set_option linter.unusedSimpArgs false
set_option linter.unusedVariables false

/-! ### the values of a word -/
def synP (w : List Nat) (j : Nat) : List Nat := (List.range 6).map fun i => if i < j then ev (pw 2 i) w else 0
theorem synP_set0 (w : List Nat) : ∀ j < 6, (synP w j).set j 0 = synP w j := fun j hj => by
  match j, hj with
  | 0, _ => rfl
  | 1, _ => rfl
  | 2, _ => rfl
  | 3, _ => rfl
  | 4, _ => rfl
  | 5, _ => rfl
theorem synP_set (w : List Nat) : ∀ j < 6, (synP w j).set j (ev (pw 2 j) w) = synP w (j + 1) := fun j hj => by
  match j, hj with
  | 0, _ => rfl
  | 1, _ => rfl
  | 2, _ => rfl
  | 3, _ => rfl
  | 4, _ => rfl
  | 5, _ => rfl
theorem synP_len (w : List Nat) (j : Nat) : (synP w j).length = 6 := by simp [synP]
theorem getD_self {l : List Nat} {i x : Nat} (h : i < l.length) : (l.set i x).getD i 0 = x := by rw [getD_set, if_pos ⟨rfl, h⟩]

theorem f91 (w : List Nat) (a : Option Addr) (cap : Nat) (hw : byt w) (hl : w.length < 1000000) (h : View) (O : Hp) (hr : Rd h O a (w.map bN)) : GSpec Try.prog 91 [.slice a w.length cap] h O (Ret O (.agg ⟨(syn w).map iN⟩)) := by
  refine GSpec.enter (fn := Try.f91) Try.func91 rfl (by kernel_rfl) ?_
  repeat' (conv => whnf
           first
           | (with_reducible refine NextSt.mk ?_)
           | ((with_reducible refine AllocSt.mk ?_); intro _b _hb _hbO))
  refine LoopSt.fix [3, 4, 6, 7, 8, 9, 10, 11, 12, 13, 14, 15, 16, 17, 18, 19, 20, 21, 22, 23, 24, 25, 26, 27, 28, 29] (fun (j : Nat) => [(7, iN j)]) (fun j => (_b, .cells ⟨(synP w j).map iN⟩ 128 (0, 0)) :: O) (fun j => j ≤ 6) (fun j => 6 - j) (0) _ (Wk.refl _ _) (rfl) ?_ ?_ ?_
  · repeat' (first | exact True.intro | refine And.intro ?_ ?_ | rfl)
  · exact Nat.zero_le _
  · intro j d hj
    have hp := pw_lt (a := 2) j
    have hlen := synP_len w j
    repeat' (conv => whnf
             first
             | ((with_reducible apply CallSt.rd (f := 149)); · (apply GSpec.cast (sp := f149 _ _ ?_ ?_ _ _); (· (repeat' (rfl))); all_goals (first | omega | decide)))
             | (with_reducible refine NextSt.mk ?_)
             | (with_reducible refine OnBB.tt ?_)
             | (with_reducible refine OnBB.ff ?_)
             | ((with_reducible apply LoadSt.boxAgg); · (repeat (exact List.Mem.head _)))
             | ((with_reducible apply StoreSt.box); (· (repeat (exact Upd.hd))); (· rfl); (· rfl); (· rfl))
             | ((with_reducible refine Cmp.mk ?_ ?_) <;> intro _hc))
    · refine LoopSt.fix [6, 14, 15, 16, 17, 18, 19, 20, 21, 22, 23, 24, 25, 26, 27, 28] (fun (k : Nat) => [(14, iN k)]) (fun k => (_b, .cells ⟨((synP w j).set j (evf (pw 2 j) 0 (w.take k))).map iN⟩ 128 (0, 0)) :: O) (fun k => k ≤ w.length) (fun k => w.length - k) (0) _ (Wk.refl _ _) ((congrArg (fun l => (_b, Obj.cells ⟨List.map iN l⟩ 128 (0, 0)) :: O) (synP_set0 w j (by omega)).symm)) ?_ ?_ ?_
      · repeat' (first | exact True.intro | refine And.intro ?_ ?_ | rfl)
      · exact Nat.zero_le _
      · intro k d hk
        have hg : ((synP w j).set j (evf (pw 2 j) 0 (w.take k))).getD j 0 = evf (pw 2 j) 0 (w.take k) := getD_self (by omega)
        have h1 : ((synP w j).set j (evf (pw 2 j) 0 (w.take k))).getD j 0 < 256 := by rw [hg]; exact evf_lt _ _ 0 (by decide) (hw.take k)
        have h2 := hw.get k
        have h3 := mul_lt (pw 2 j) h1
        have hlen2 : ((synP w j).set j (evf (pw 2 j) 0 (w.take k))).length = 6 := by rw [List.length_set, hlen]
        repeat' (conv => whnf
                 first
                 | ((with_reducible apply CallSt.rd (f := 95)); · (apply GSpec.cast (sp := f95 _ _ ?_ ?_ _ _); (· (repeat' (with_reducible rfl))); all_goals (with_reducible assumption)))
                 | (with_reducible refine NextSt.mk ?_)
                 | (with_reducible refine OnBB.tt ?_)
                 | (with_reducible refine OnBB.ff ?_)
                 | ((with_reducible apply NW.addN); (· with_reducible rfl); (· exact natL _); (· omega))
                 | ((with_reducible apply NW.i64N); (· with_reducible rfl); (· omega))
                 | ((with_reducible apply LoadSt.ownN); (· (repeat (first | exact List.Mem.head _ | with_reducible apply List.mem_cons_of_mem))); (· (exact Nat.zero_add _)); · (omega))
                 | ((with_reducible apply LoadSt.rdN); (· (repeat (first | with_reducible assumption | with_reducible apply Rd.cons))); · (omega))
                 | ((with_reducible apply StoreSt.mapd); (· (repeat (exact Upd.hd))); (· (exact Nat.zero_add _)); (· rfl); (· rfl); (· (omega)); · (exact Or.inl (Nat.le_refl _)))
                 | ((with_reducible apply Bits.xorN); (· with_reducible rfl); (· with_reducible rfl); (· ((refine ⟨?_, ?_⟩ <;> (first | omega | exact Nat.le_trans (Nat.le_of_lt (show _ < 256 by assumption)) (by decide))))))
                 | ((with_reducible apply IdxArrP.n1); (· rfl); (· with_reducible rfl); · omega)
                 | ((with_reducible apply IdxSl.rd1); (· with_reducible assumption); (· rfl); (· with_reducible rfl); (· (omega)); · ((simp only [List.length_map, List.length_append, List.length_cons, List.length_nil, List.length_take, List.length_drop, List.length_replicate, List.length_set] at *; omega)))
                 | ((with_reducible refine Cmp.mk ?_ ?_) <;> intro _hc))
        · rw [hg, ← evf_take _ _ (by omega), List.set_set]
          refine RoundFix.mk (k + 1) ?_ ?_ _ rfl (Wk.drop (by (try dsimp only); (try simp only [List.cons_append, List.nil_append]); (repeat (with_reducible exact List.Sublist.refl _)))) ?_
          · omega
          · repeat' (first | exact True.intro | refine And.intro ?_ ?_ | rfl)
          · omega
        · have : k = w.length := by omega
          subst this
          rw [List.take_length, show evf (pw 2 j) 0 w = ev (pw 2 j) w from rfl, synP_set w j (by omega)]
          refine RoundFix.mk (j + 1) ?_ ?_ _ rfl (Wk.drop (by (try dsimp only); (try simp only [List.cons_append, List.nil_append]); (repeat (with_reducible exact List.Sublist.refl _)))) ?_
          · omega
          · repeat' (first | exact True.intro | refine And.intro ?_ ?_ | rfl)
          · omega
    · have : j = 6 := by omega
      subst this
      exact FinSt.ret (by (try dsimp only); (try simp only [List.cons_append, List.nil_append]); (repeat (first | with_reducible exact List.Sublist.refl _ | with_reducible apply List.Sublist.cons))) rfl

/-! ### powers and logarithms -/
def fs : Nat → List Nat
  | 0 => List.replicate 511 0
  | n + 1 => ((fs n).set n (pw 2 n)).set (255 + pw 2 n) n
theorem fs_len : ∀ n, (fs n).length = 511
  | 0 => by simp [fs]
  | n + 1 => by rw [fs, List.length_set, List.length_set, fs_len n]
theorem fs_exp : ∀ n, n ≤ 255 → ∀ i < n, (fs n).getD i 0 = pw 2 i
  | 0, _, i, hi => by omega
  | n + 1, hn, i, hi => by
    rw [fs, getD_set, if_neg (by omega), getD_set]
    by_cases e : n = i
    · subst e; rw [if_pos ⟨rfl, by rw [fs_len]; omega⟩]
    · rw [if_neg (by omega)]; exact fs_exp n (by omega) i (by omega)
theorem fs_log : ∀ n, n ≤ 255 → ∀ i < n, (fs n).getD (255 + pw 2 i) 0 = i
  | 0, _, i, hi => by omega
  | n + 1, hn, i, hi => by
    have hp := pw_lt (a := 2) i
    have hp2 := pw_lt (a := 2) n
    rw [fs, getD_set]
    by_cases e : n = i
    · subst e; rw [if_pos ⟨rfl, by rw [List.length_set, fs_len]; omega⟩]
    · have hne : pw 2 n ≠ pw 2 i := fun h => e (pw2_inj (by omega) (by omega) h)
      rw [if_neg (by omega), getD_set, if_neg (by omega)]
      exact fs_log n (by omega) i (by omega)
structure FX (fx : List Nat) : Prop where
  len : fx.length = 511
  exp : ∀ {i : Nat}, i < 255 → fx.getD i 0 = pw 2 i
  log : ∀ {a : Nat}, a < 256 → a ≠ 0 → fx.getD (255 + a) 0 < 255 ∧ pw 2 (fx.getD (255 + a) 0) = a
theorem fs_ok : FX (fs 255) where
  len := fs_len 255
  exp := fun h => fs_exp 255 (Nat.le_refl _) _ h
  log := fun {a} ha h0 => by
    obtain ⟨k, hk, rfl⟩ := pw2_surj ha h0
    rw [show (fs 255).getD (255 + pw 2 k) 0 = k from fs_log 255 (Nat.le_refl _) k hk]
    exact ⟨hk, rfl⟩

theorem f146 (h : View) (O : Hp) : GSpec Try.prog 146 [] h O (New O fun v H => ∃ b fx, FX fx ∧ v = .pointer (some ⟨b, 0, none⟩) ∧ Rd h H (some ⟨b, 0, none⟩) (fx.map iN)) := by
  refine GSpec.enter (fn := Try.f146) Try.func146 rfl (by kernel_rfl) ?_
  repeat' (conv => whnf
           first
           | (refine AllocSt.as (c' := (fs 0).map iN) (by kernel_rfl) ?_; intro _b _hb _hbO)
           | (with_reducible refine NextSt.mk ?_))
  refine LoopSt.fix [2, 3, 6, 7, 8, 9, 10, 11, 12, 13, 14, 15, 16, 17, 18, 19, 20, 21, 22, 23] (fun (n : Nat) => [(2, iN (pw 2 n)), (6, iN n)]) (fun n => (_b, .cells ⟨(fs n).map iN⟩ 183 (0, 0)) :: O) (fun n => n ≤ 255) (fun n => 255 - n) (0) _ (Wk.refl _ _) (rfl) ?_ ?_ ?_
  · repeat' (first | exact True.intro | refine And.intro ?_ ?_ | rfl)
  · exact Nat.zero_le _
  · intro n d hn
    have hp := pw_lt (a := 2) n
    have hl := fs_len n
    repeat' (conv => whnf
             first
             | ((with_reducible apply CallSt.rd (f := 95)); · (apply GSpec.cast (sp := f95 _ _ ?_ ?_ _ _); (· (repeat' (rfl))); all_goals (first | with_reducible assumption | decide)))
             | (with_reducible refine NextSt.mk ?_)
             | (with_reducible refine OnBB.tt ?_)
             | (with_reducible refine OnBB.ff ?_)
             | ((with_reducible apply NW.addN); (· with_reducible rfl); (· exact natL _); (· omega))
             | ((with_reducible apply StoreSt.mapd); (· (repeat (exact Upd.hd))); (· (first | exact Nat.zero_add _ | with_reducible rfl)); (· rfl); (· rfl); (· (first | omega | (simp only [List.length_map, List.length_append, List.length_cons, List.length_nil, List.length_take, List.length_drop, List.length_replicate, List.length_set] at *; omega))); · (exact Or.inl (Nat.le_refl _)))
             | ((with_reducible apply IdxArrP.n1); (· rfl); (· with_reducible rfl); · omega)
             | ((with_reducible refine Cmp.mk ?_ ?_) <;> intro _hc))
    · refine RoundFix.mk (n + 1) ?_ ?_ _ rfl (Wk.drop (by (try dsimp only); (try simp only [List.cons_append, List.nil_append]); (repeat (first | with_reducible exact List.Sublist.refl _ | apply List.Sublist.cons_cons)))) ?_
      · omega
      · repeat' (first | exact True.intro | refine And.intro ?_ ?_ | rfl)
      · omega
    · have : n = 255 := by omega
      subst this
      exact FinSt.new (H := [(_b, .cells ⟨(fs 255).map iN⟩ 183 (0, 0))]) (List.Sublist.refl _) ⟨_b, _, fs_ok, rfl, Rd.own0 (List.Mem.head _)⟩

/-- A quotient. -/
def dvd (a b : Nat) : Nat := mul a (inv b)
theorem dvd_eq {a b c : Nat} (ha : a < 256) (hb : b < 256) (hc : c < 256) (h0 : b ≠ 0) (h : mul c b = a) : c = dvd a b := by
  rw [dvd, ← h, mul_assoc hc hb (inv_lt b), mul_inv hb h0, mul_one hc]
theorem dvd_log {fx : List Nat} (hx : FX fx) {a b : Nat} (ha : a < 256) (hb : b < 256) (h0 : a ≠ 0) (h1 : b ≠ 0) : pw 2 ((fx.getD (255 + a) 0 + 255 - fx.getD (255 + b) 0) % 255) = dvd a b := by
  obtain ⟨i1, i2⟩ := hx.log ha h0
  obtain ⟨j1, j2⟩ := hx.log hb h1
  refine dvd_eq ha hb (pw_lt _) h1 ?_
  rw [pw2_mod]
  conv => lhs; rw [← j2]
  conv => lhs; arg 1; rw [j2]
  rw [← pw_add (by decide), show fx.getD (255 + a) 0 + 255 - fx.getD (255 + b) 0 + fx.getD (255 + b) 0 = fx.getD (255 + a) 0 + 255 by omega, pw_add (by decide), pw2_255, mul_one (pw_lt _), i2]
theorem f148 (fx : List Nat) (hx : FX fx) (fb a b : Nat) (ha : a < 256) (hb : b < 256) (h0 : b ≠ 0) (h : View) (O : Hp) (hf : Rd h O (some ⟨fb, 0, none⟩) (fx.map iN)) : GSpec Try.prog 148 [.pointer (some ⟨fb, 0, none⟩), iN a, iN b] h O (Ret O (iN (dvd a b))) := by
  by_cases hz : a = 0
  · subst hz
    have : dvd 0 b = 0 := zero_mul (inv_lt b)
    rw [this]
    refine GSpec.enter (fn := Try.f148) Try.func148 rfl (by kernel_rfl) ?_
    repeat' (conv => whnf
             first
             | (with_reducible refine NextSt.mk ?_)
             | (with_reducible refine OnBB.tt ?_)
             | ((with_reducible apply Cmp.yes); · omega))
    exact FinSt.ret (List.Sublist.refl _) rfl
  · have hl := hx.len
    obtain ⟨h1, h2⟩ := hx.log ha hz
    obtain ⟨h3, h4⟩ := hx.log hb h0
    have h5 := dvd_log hx ha hb hz h0
    refine GSpec.enter (fn := Try.f148) Try.func148 rfl (by kernel_rfl) ?_
    repeat' (conv => whnf
             first
             | ((with_reducible refine DrawSt.walk [0, 1, 2, 3, 4, 5, 6, 7, 8, 9, 10, 11, 12, 13, 14, 15, 16, 17, 18, 19, 20] mixed ?_ ?_); · decide +kernel)
             | (with_reducible refine NextSt.mk ?_)
             | (with_reducible refine OnBB.ff ?_)
             | ((with_reducible apply NW.addN); (· with_reducible rfl); (· exact natL _); (· omega))
             | ((with_reducible apply NW.subN); (· with_reducible rfl); (· with_reducible rfl); (· omega))
             | ((with_reducible apply Cmp.no); · omega)
             | ((with_reducible apply LoadSt.rdpN); (· (repeat (with_reducible assumption))); (· ((simp only [Nat.zero_add, Nat.add_zero]; rfl))); · (omega))
             | ((with_reducible apply DivSt.remN); (· with_reducible rfl); (· exact natL _); (· omega))
             | ((with_reducible apply IdxArrP.n1); (· rfl); (· with_reducible rfl); · omega))
    refine FinSt.ret (List.Sublist.refl _) ?_
    rw [hx.exp (Nat.mod_lt _ (by decide)), h5]

/-! ### what wrong places explain -/
def fV (p : Nat × Nat) : List Value := [iN p.1, iN p.2]
theorem PT_app (n j : Nat) : ∀ u v, PT n j (u ++ v) = PT n j u ^^^ PT n j v
  | [], v => by show PT n j v = 0 ^^^ _; rw [Nat.zero_xor]
  | (i, e) :: u, v => by
    show mul e (pw 2 ((n - 1 - i) * j)) ^^^ PT n j (u ++ v) = (mul e (pw 2 ((n - 1 - i) * j)) ^^^ PT n j u) ^^^ PT n j v
    rw [PT_app n j u v, Nat.xor_assoc]
theorem PT_take (n j : Nat) {l : List (Nat × Nat)} {k : Nat} (h : k < l.length) : PT n j (l.take (k + 1)) = PT n j (l.take k) ^^^ mul (l.getD k default).2 (pw 2 ((n - 1 - (l.getD k default).1) * j)) := by
  have h1 : ∀ p : Nat × Nat, PT n j [p] = mul p.2 (pw 2 ((n - 1 - p.1) * j)) := fun ⟨i, e⟩ => by
    show _ ^^^ 0 = _
    rw [Nat.xor_zero]
  rw [take_succ (d := default) h, PT_app, h1]
theorem PT_lt (n j : Nat) : ∀ l : List (Nat × Nat), (∀ p ∈ l, p.2 < 256) → PT n j l < 256
  | [], _ => by show 0 < 256; decide
  | (i, e) :: l, h => xor_lt (mul_lt _ (h (i, e) (by simp))) (PT_lt n j l fun p hp => h p (by simp [hp]))
theorem getD_mem {α : Type} {l : List α} {k : Nat} {d : α} (h : k < l.length) : l.getD k d ∈ l := by
  rw [List.getD_eq_getElem?_getD, List.getElem?_eq_getElem h]; exact List.getElem_mem h

def explV (n : Nat) (l : List (Nat × Nat)) (v : List Nat) : Bool := (List.range 6).all fun j => PT n j l == v.getD j 0
theorem explV_iff {n : Nat} {l : List (Nat × Nat)} {v : List Nat} : explV n l v = true ↔ ∀ j < 6, PT n j l = v.getD j 0 := by simp [explV]
theorem f147 (fx : List Nat) (hx : FX fx) (fb n cap : Nat) (a : Option Addr) (l : List (Nat × Nat)) (v : List Nat) (hn : n < 1000) (hv : v.length = 6) (hll : l.length < 1000) (hp : ∀ p ∈ l, p.1 < n ∧ p.2 < 256) (h : View) (O : Hp) (hf : Rd h O (some ⟨fb, 0, none⟩) (fx.map iN)) (hr : Rd h O a (l.flatMap fV)) :
    GSpec Try.prog 147 [.pointer (some ⟨fb, 0, none⟩), .slice a l.length cap, iN n, .agg ⟨v.map iN⟩] h O (Ret O (.bool (explV n l v))) := by
  have hfl := hx.len
  refine GSpec.enter (fn := Try.f147) Try.func147 rfl (by kernel_rfl) ?_
  repeat' (conv => whnf
           first
           | (with_reducible refine NextSt.mk ?_)
           | ((with_reducible refine AllocSt.mk ?_); intro _b _hb _hbO))
  refine LoopSt.fix [8, 9, 10, 12, 13, 14, 15, 16, 17, 18, 19, 20, 21, 22, 23, 24, 25, 26, 27, 28, 29, 30, 31, 32, 33, 34, 35, 36, 37, 38, 39, 40, 41, 42, 43, 44, 45, 46] (fun (j : Nat) => [(13, iN j)]) (fun _ => _) (fun j => j ≤ 6 ∧ ∀ i < j, PT n i l = v.getD i 0) (fun j => 6 - j) (0) _ (Wk.refl _ _) (rfl) ?_ ?_ ?_
  · repeat' (first | exact True.intro | refine And.intro ?_ ?_ | rfl)
  · exact ⟨Nat.zero_le _, fun i hi => by omega⟩
  · rintro j d ⟨hj, hJ⟩
    repeat' (conv => whnf
             first
             | (with_reducible refine NextSt.mk ?_)
             | (with_reducible refine OnBB.tt ?_)
             | (with_reducible refine OnBB.ff ?_)
             | ((with_reducible refine Cmp.mk ?_ ?_) <;> intro _hc))
    · refine LoopSt.fix [10, 12, 18, 19, 20, 21, 22, 23, 24, 25, 26, 27, 28, 29, 30, 31, 32, 33, 34, 35, 36, 37, 38, 39, 40] (fun (k : Nat) => [(10, iN (PT n j (l.take k))), (18, iN k)]) (fun _ => _) (fun k => k ≤ l.length) (fun k => l.length - k) (0) _ (Wk.refl _ _) (rfl) ?_ ?_ ?_
      · repeat' (first | exact True.intro | refine And.intro ?_ ?_ | rfl)
      · exact Nat.zero_le _
      · intro k d hk
        by_cases hkl : k < l.length
        · have hm := hp _ (getD_mem (d := default) hkl)
          have h1 := PT_lt n j (l.take k) fun p hp' => (hp p (List.mem_of_mem_take hp')).2
          have h2 : (n - 1 - (l.getD k default).1) * j ≤ 1000 * 6 := Nat.mul_le_mul (by omega) (by omega)
          have h3 : fx.getD ((n - 1 - (l.getD k default).1) * j % 255) 0 = pw 2 ((n - 1 - (l.getD k default).1) * j) := by rw [hx.exp (Nat.mod_lt _ (by decide)), pw2_mod]
          have h4 : fx.getD ((n - 1 - (l.getD k default).1) * j % 255) 0 < 256 := by rw [h3]; exact pw_lt _
          have h5 := mul_lt (fx.getD ((n - 1 - (l.getD k default).1) * j % 255) 0) hm.2
          repeat' (conv => whnf
                   first
                   | ((with_reducible refine DrawSt.walk [0, 1, 2, 3, 4, 5, 6, 7, 8, 9, 10, 11, 12, 13, 14, 15, 16, 17, 18] mixed ?_ ?_); · decide +kernel)
                   | ((with_reducible apply CallG.rd (f := 95)); · (apply GSpec.cast (sp := f95 _ _ ?_ ?_ _ _); (· (repeat' (with_reducible rfl))); all_goals (first | with_reducible assumption | omega)))
                   | ((with_reducible apply LoadSt.rdg (g := fV) (s := 2)); (· rfl); (· (repeat (first | with_reducible assumption | with_reducible apply Rd.cons))); (· exact fun _ => rfl); (· decide); · (omega))
                   | ((with_reducible apply IdxSl.rdg (g := fV) (s := 2)); (· with_reducible assumption); (· exact fun _ => rfl); (· decide); (· rfl); (· with_reducible rfl); (· (omega)); · (omega))
                   | (with_reducible refine NextSt.mk ?_)
                   | (with_reducible refine OnBB.tt ?_)
                   | ((with_reducible apply NW.addN); (· with_reducible rfl); (· exact natL _); (· omega))
                   | ((with_reducible apply NW.subN); (· with_reducible rfl); (· first | with_reducible rfl | exact natL _); (· omega))
                   | ((with_reducible apply NW.mulN); (· with_reducible rfl); (· with_reducible rfl); (· omega))
                   | ((with_reducible apply Cmp.yes); · omega)
                   | ((with_reducible apply LoadSt.rdpN); (· (repeat (first | with_reducible assumption | with_reducible apply Rd.cons))); (· ((simp only [Nat.zero_add, Nat.add_zero]; rfl))); · (omega))
                   | ((with_reducible apply LoadSt.box); · (repeat (exact List.Mem.head _)))
                   | ((with_reducible refine AllocSt.mk ?_); intro _b _hb _hbO)
                   | ((with_reducible apply StoreSt.box); (· (repeat (exact Upd.hd))); (· rfl); (· rfl); (· rfl))
                   | ((with_reducible apply Bits.xorN); (· with_reducible rfl); (· with_reducible rfl); (· (omega)))
                   | ((with_reducible apply DivSt.remN); (· with_reducible rfl); (· exact natL _); (· omega))
                   | ((with_reducible apply IdxArrP.n1); (· rfl); (· with_reducible rfl); · omega))
          rw [h3, ← PT_take n j hkl]
          refine RoundFix.mk (k + 1) ?_ ?_ _ rfl (Wk.drop (by (try dsimp only); (try simp only [List.cons_append, List.nil_append]); (repeat (first | with_reducible exact List.Sublist.refl _ | with_reducible apply List.Sublist.cons)))) ?_
          · omega
          · repeat' (first | exact True.intro | refine And.intro ?_ ?_ | rfl)
          · omega
        · have hk2 : l.take k = l := List.take_of_length_le (by omega)
          rw [hk2]
          repeat' (conv => whnf
                   first
                   | (with_reducible refine NextSt.mk ?_)
                   | (with_reducible refine OnBB.tt ?_)
                   | (with_reducible refine OnBB.ff ?_)
                   | ((with_reducible apply NW.addN); (· with_reducible rfl); (· exact natL _); (· omega))
                   | ((with_reducible apply Cmp.no); · omega)
                   | ((with_reducible apply LoadSt.ownN); (· (repeat (exact List.Mem.head _))); (· (exact Nat.zero_add _)); · (omega))
                   | ((with_reducible apply IdxArrP.n1); (· rfl); (· with_reducible rfl); · omega)
                   | ((with_reducible refine Cmp.mk ?_ ?_) <;> intro _hc))
          · refine FinSt.ret (by (try dsimp only); (try simp only [List.cons_append, List.nil_append]); (repeat (first | with_reducible exact List.Sublist.refl _ | with_reducible apply List.Sublist.cons))) ?_
            have : explV n l v = false := by
              rw [← Bool.not_eq_true, explV_iff]
              intro H
              have := H j (by omega)
              omega
            rw [this]
          · refine RoundFix.mk (j + 1) ?_ ?_ _ rfl (Wk.drop (by (try dsimp only); (try simp only [List.cons_append, List.nil_append]); (repeat (with_reducible exact List.Sublist.refl _)))) ?_
            · omega
            · repeat' (first | exact True.intro | refine And.intro ?_ ?_ | rfl)
            · refine ⟨by omega, fun i hi => ?_⟩
              by_cases hij : i = j
              · subst hij; omega
              · exact hJ i (by omega)
    · refine FinSt.ret (by (try dsimp only); (try simp only [List.cons_append, List.nil_append]); (repeat (first | with_reducible exact List.Sublist.refl _ | with_reducible apply List.Sublist.cons))) ?_
      rw [explV_iff.2 fun i hi => hJ i (by omega)]
end Go.Proofs.Ytlbmlimaobkhpaa
