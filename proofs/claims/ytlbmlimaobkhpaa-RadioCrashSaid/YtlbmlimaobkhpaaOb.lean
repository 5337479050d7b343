/- The contracts as the laws need them. -/
import Derived.Test.YtlbmlimaobkhpaaOa
import Derived.Test.YtlbmlimaobkhpaaKa
import Derived.Test.YtlbmlimaobkhpaaGd
set_option linter.unusedVariables false
set_option linter.unusedSimpArgs false
set_option linter.unusedSectionVars false
/- Contracts and helpers for the laws over books. -/
namespace Go.Gv
theorem SlSl.three {a : Option Addr} {len cap sz l r m : Nat} {k k' k2 : IntKind} {x y z : Int} {K : Value → Prop} (hx : x = l) (hy : y = r) (hz : z = m) (h1 : l ≤ r) (h2 : r ≤ m) (h3 : m ≤ cap) (hk : K (.slice (if m = l then a else a.map (·.add (l * sz))) (r - l) (m - l))) : SlSl a len cap (some (.int k x)) (some (.int k' y)) (some (.int k2 z)) sz K := by
  subst hx hy hz
  exact .mk l r m (.inr ⟨k, rfl⟩) (.inr ⟨k', rfl⟩) (.inr ⟨k2, rfl⟩) h1 h2 h3 hk
theorem Loc.left {G r H : Hp} {f : Hp → Hp} (l : Loc G H f) : Loc (G ++ r) H (fun H' => f H' ++ r) := by
  obtain ⟨A, B, rfl, hf⟩ := l.parts
  exact ⟨A, B ++ r, by simp, fun H' => by rw [hf]; simp⟩
theorem Bits.and1u {a : Nat} {x : Int} {K : Value → Prop} (hx : x = a) (h : a ≤ 4294967295) (hk : K (.int .u32 (a % 2 : Nat))) : Bits .and .u32 x 1 K := by
  subst hx; refine .u32 (by simp) (by omega) ?_
  have : natOp .and (a : Int).toNat (1 : Int).toNat = a % 2 := by simp [natOp, Nat.and_one_is_mod]
  rw [this]; exact hk
end Go.Gv
namespace Go.Proofs.Ytlbmlimaobkhpaa
open Go Go.Gv
set_option linter.unusedSimpArgs false
set_option linter.unusedVariables false
theorem fl_dropE : ∀ (w : Nat) (q : List En), (q.flatMap enV).drop (w * 3) = (q.drop w).flatMap enV
  | 0, q => by rw [Nat.zero_mul]; rfl
  | w + 1, [] => by simp
  | w + 1, e :: q => by
    rw [Nat.add_mul, Nat.one_mul, List.drop_succ_cons, ← fl_dropE w q]
    rfl
theorem fl_takeE : ∀ (w : Nat) (q : List En), (q.flatMap enV).take (w * 3) = (q.take w).flatMap enV
  | 0, q => by rw [Nat.zero_mul]; rfl
  | w + 1, [] => by simp
  | w + 1, e :: q => by
    rw [Nat.add_mul, Nat.one_mul, List.take_succ_cons]
    show List.take (w * 3 + 3) (enV e ++ q.flatMap enV) = enV e ++ (q.take w).flatMap enV
    rw [← fl_takeE w q]
    rfl
theorem pickV_subs {items : List En} {at_ : List Int} {e : En} (h : e ∈ pickV items at_) : e ∈ items := by
  obtain ⟨i, _, h2⟩ := List.mem_flatMap.1 h
  split at h2
  · rw [List.mem_singleton.1 h2]; exact getD_mem' (by omega)
  · cases h2
theorem one_at {l : List Int} {k : Nat} (h : k < l.length) : ((l.map zV).drop (k * 1)).take 1 = [l.getD k default].map zV := by
  rw [Nat.mul_one, ← List.map_drop, ← List.map_take]
  congr 1
  rw [List.getD_eq_getElem?_getD, List.getElem?_eq_getElem h, List.drop_eq_getElem_cons h]
  rfl
theorem one_atE {g : List En} {k : Nat} (h : k < g.length) : ((g.flatMap enV).drop (k * 3)).take 3 = [g.getD k default].flatMap enV := by
  rw [fl_dropE, show 3 = 1 * 3 from rfl, fl_takeE]
  congr 1
  rw [List.getD_eq_getElem?_getD, List.getElem?_eq_getElem h, List.drop_eq_getElem_cons h]
  rfl
theorem one_rd {h : View} {O : Hp} {a : Option Addr} {g : List En} {k : Nat} (hk : k < g.length) (hr : Rd h O a (g.flatMap enV)) : Rd h O (if k + 1 = k then a else a.map (·.add (k * 3))) ([g.getD k default].flatMap enV) := by
  have := (hr.slice k (k + 1) 3 (fun e => by omega)).take 3
  rwa [one_atE hk] at this
/-- Taking, where the list is owned as well. -/
theorem f55L (r : Dr) (b : Br) (S T : DB) (B n : Nat) (x : Int) (l : List En) (a : Option Addr) (cap : Nat) (G : Hp) (hw : ∀ e ∈ l, enW e) (hl : l.length < 1000000) (hS : okS B S) (hB : B + 20000 < 1000000000) (hk : bOk r S.1 b S.2) (ht : takeV S l = ⟨T, n, x⟩) (h : View) (hr : Rd h G a (l.flatMap enV)) :
    GSpec Try.prog 55 [pP b.p, .slice a l.length cap] h (G ++ bH r S.1 b S.2) (fun v _ O' => ∃ H', O' = G ++ H' ∧ BR r b T (.tuple ⟨[iN n, .int .i64 x]⟩) v H') := by
  have e := f55 r b S B l a cap G hw hl hS hB hk h hr
  rw [ht] at e
  exact e.mono fun v h' O' ⟨r', b', h1, h2, h3, h4, h5⟩ => ⟨bH r' T.1 b' T.2, h4, r', b', h1, h2, h3, rfl, h5⟩
end Go.Proofs.Ytlbmlimaobkhpaa
