/- The contracts as the laws need them; what arguments read as. -/
import Derived.Test.YtlbmlimaobkhpaaKa
import Derived.Test.YtlbmlimaobkhpaaGd
import Derived.Test.YtlbmlimaobkhpaaPa
import Derived.Test.YtlbmlimaobkhpaaOa
set_option linter.unusedVariables false
set_option linter.unusedSimpArgs false
set_option linter.unusedSectionVars false
/- RadioOnce: the contracts as the law needs them. -/
namespace Go.Gv
theorem SlSl.three {a : Option Addr} {len cap sz l r m : Nat} {k k' k2 : IntKind} {x y z : Int} {K : Value → Prop} (hx : x = l) (hy : y = r) (hz : z = m) (h1 : l ≤ r) (h2 : r ≤ m) (h3 : m ≤ cap) (hk : K (.slice (if m = l then a else a.map (·.add (l * sz))) (r - l) (m - l))) : SlSl a len cap (some (.int k x)) (some (.int k' y)) (some (.int k2 z)) sz K := by
  subst hx hy hz
  exact .mk l r m (.inr ⟨k, rfl⟩) (.inr ⟨k', rfl⟩) (.inr ⟨k2, rfl⟩) h1 h2 h3 hk
theorem Loc.left {G r H : Hp} {f : Hp → Hp} (l : Loc G H f) : Loc (G ++ r) H (fun H' => f H' ++ r) := by
  obtain ⟨A, B, rfl, hf⟩ := l.parts
  exact ⟨A, B ++ r, by simp, fun H' => by rw [hf]; simp⟩
theorem Bits.and1u {a : Nat} {x : Int} {K : Value → Prop} (hx : x = a) (h : a ≤ 4294967295) (hk : K (.int .u32 (a % 2 : Nat))) : Bits .and .u32 x 1 K := by
  subst hx; refine .u32 (by simp) (by omega) ?_
  have : natOp .and (a : Int).toNat (1 : Int).toNat = a % 2 := by simp [natOp, Nat.and_one_is_mod]
  rw [this]; exact hk
end Go.Gv
namespace Go.Proofs.Ytlbmlimaobkhpaa
open Go Go.Gv
set_option linter.unusedSimpArgs false
set_option linter.unusedVariables false
theorem pickV_subs {items : List En} {at_ : List Int} {e : En} (h : e ∈ pickV items at_) : e ∈ items := by
  obtain ⟨i, _, h2⟩ := List.mem_flatMap.1 h
  split at h2
  · rw [List.mem_singleton.1 h2]; exact getD_mem' (by omega)
  · cases h2
theorem one_at {l : List Int} {k : Nat} (h : k < l.length) : ((l.map zV).drop (k * 1)).take 1 = [l.getD k default].map zV := by
  rw [Nat.mul_one, ← List.map_drop, ← List.map_take]
  congr 1
  rw [List.getD_eq_getElem?_getD, List.getElem?_eq_getElem h, List.drop_eq_getElem_cons h]
  rfl
theorem one_atE {g : List En} {k : Nat} (h : k < g.length) : ((g.flatMap enV).drop (k * 3)).take 3 = [g.getD k default].flatMap enV := by
  rw [fl_drop, show 3 = 1 * 3 from rfl, fl_take]
  congr 1
  rw [List.getD_eq_getElem?_getD, List.getElem?_eq_getElem h, List.drop_eq_getElem_cons h]
  rfl
theorem one_rd {h : View} {O : Hp} {a : Option Addr} {g : List En} {k : Nat} (hk : k < g.length) (hr : Rd h O a (g.flatMap enV)) : Rd h O (if k + 1 = k then a else a.map (·.add (k * 3))) ([g.getD k default].flatMap enV) := by
  have := (hr.slice k (k + 1) 3 (fun e => by omega)).take 3
  rwa [one_atE hk] at this
theorem want_own (L : List (List En)) : ∀ k, k ≤ L.length → wantI L (L.map fun q => (q.length : Int)) (L.map sumL) k = []
  | 0, _ => rfl
  | k + 1, hk => by
    rw [wantI, want_own L k (by omega), mapD (d := []) (by omega), mapD (d := []) (by omega), List.nil_append]
    unfold wantN
    rw [Int.toNat_natCast, List.take_length, if_neg (fun h => h.elim (fun h => by omega) fun h => h rfl), List.drop_length]
/-- Taking, where the list is owned as well. -/
theorem f55L (r : Dr) (b : Br) (S T : DB) (B n : Nat) (x : Int) (l : List En) (a : Option Addr) (cap : Nat) (G : Hp) (hw : ∀ e ∈ l, enW e) (hl : l.length < 1000000) (hS : okS B S) (hB : B + 20000 < 1000000000) (hk : bOk r S.1 b S.2) (ht : takeV S l = ⟨T, n, x⟩) (h : View) (hr : Rd h G a (l.flatMap enV)) :
    GSpec Try.prog 55 [pP b.p, .slice a l.length cap] h (G ++ bH r S.1 b S.2) (fun v _ O' => ∃ H', O' = G ++ H' ∧ BR r b T (.tuple ⟨[iN n, .int .i64 x]⟩) v H') := by
  have e := f55 r b S B l a cap G hw hl hS hB hk h hr
  rw [ht] at e
  exact e.mono fun v h' O' ⟨r', b', h1, h2, h3, h4, h5⟩ => ⟨bH r' T.1 b' T.2, h4, r', b', h1, h2, h3, rfl, h5⟩
/-- What a book wants for its own tally: nothing. -/
theorem f58L (r : Dr) (b : Br) (S : DB) (A B : Buf) (hw : wfL S.2.logs) (hk : bOk r S.1 b S.2) (h : View) (hA : A.ok 1 ((S.2.logs.map fun q => (q.length : Int)).map zV) S.2.logs.length) (hB : B.ok 1 ((S.2.logs.map sumL).map uN) S.2.logs.length) :
    GSpec Try.prog 58 [pP b.p, .agg ⟨[.slice A.a S.2.logs.length A.cap, .slice B.a S.2.logs.length B.cap]⟩] h (bH r S.1 b S.2 ++ (A.hp 3 ((S.2.logs.map fun q => (q.length : Int)).map zV) ++ B.hp 108 ((S.2.logs.map sumL).map uN)))
      (New (bH r S.1 b S.2 ++ (A.hp 3 ((S.2.logs.map fun q => (q.length : Int)).map zV) ++ B.hp 108 ((S.2.logs.map sumL).map uN))) fun v H => ∃ C : Buf, v = .tuple ⟨[.slice C.a 0 C.cap, .int .i64 0]⟩ ∧ H = C.hp 70 [] ∧ C.ok 3 [] 0) := by
  have h8 := hw.len
  have e := f58 r b S ⟨A.a, A.cap, S.2.logs.map fun q => (q.length : Int), B.a, B.cap, S.2.logs.map sumL⟩ (A.hp 3 ((S.2.logs.map fun q => (q.length : Int)).map zV) ++ B.hp 108 ((S.2.logs.map sumL).map uN)) hw hk (by simp only [List.length_map]) (by simp only [List.length_map])
    (fun n hn => by obtain ⟨q, _, rfl⟩ := List.mem_map.1 hn; omega) h ⟨Rd.appR (Rd.appL (Buf.rd hA)), Rd.appR (Rd.appR (Buf.rd hB)), by simp only [List.length_map]; omega, by simp only [List.length_map]; omega⟩
  simp only [tyV, List.length_map, want_own S.2.logs _ (Nat.le_refl _)] at e
  exact e
end Go.Proofs.Ytlbmlimaobkhpaa
/- What worlds, lists of messages and of indices read as. -/
namespace Go.Proofs.Ytlbmlimaobkhpaa
open Go Go.Gv
set_option maxRecDepth 100000
theorem u63 : Try.prog.underlying 63 = some (.slice 70) := by kernel_rfl
theorem u66 : Try.prog.underlying 66 = some (.slice 3) := by kernel_rfl
theorem u65 : Try.prog.underlying 65 = some (.struct #[⟨ "Offices", 3, 0, false, "", "", 0⟩, ⟨ "Sectors", 3, 1, false, "", "", 8⟩, ⟨ "Items", 63, 2, false, "", "", 16⟩]) := by kernel_rfl
theorem u70 : Try.prog.underlying 70 = some (.struct #[⟨ "Office", 3, 0, false, "", "", 0⟩, ⟨ "No", 3, 1, false, "", "", 8⟩, ⟨ "Body", 9, 2, false, "", "", 16⟩]) := by kernel_rfl
theorem c70 : Try.prog.cellsOf 70 = 3 := by kernel_rfl
theorem c3 : Try.prog.cellsOf 3 = 1 := by kernel_rfl
theorem dEs (W : World) : DecT Try.prog W 63 (Sl.cells (α := En)) (SlOk Try.prog W enV (fun e => (i64 e.office ∧ i64 e.no) ∧ e.body.length ≤ 9223372036854775807)) :=
  dec_slice u63 c70 (by decide) (fun _ => rfl) ((dec_struct u70 (by decide +kernel) (by kernel_rfl) (decFs_cons (dec_i64 u3) (decFs_cons (dec_i64 u3) (decFs_cons (dec_str u9) decFs_nil)))).map
    (fun p => (⟨p.1, p.2.1, p.2.2.1⟩ : En)) (fun _ => rfl) fun _ h => ⟨⟨h.1, h.2.1⟩, maxI h.2.2.1⟩)
/-- A world, as it is handed over. -/
structure Wz where
  o : Int
  s : Int
  z : Sl En
theorem dWd (W : World) : DecT Try.prog W 65 (fun w : Wz => [.int .i64 w.o, .int .i64 w.s, .slice w.z.a w.z.l.length w.z.cap]) (fun w => (i64 w.o ∧ i64 w.s) ∧ SlOk Try.prog W enV (fun e => (i64 e.office ∧ i64 e.no) ∧ e.body.length ≤ 9223372036854775807) w.z) :=
  (dec_struct u65 (by decide +kernel) (by kernel_rfl) (decFs_cons (dec_i64 u3) (decFs_cons (dec_i64 u3) (decFs_cons (dEs W) decFs_nil)))).map
    (fun p => (⟨p.1, p.2.1, p.2.2.1⟩ : Wz)) (fun _ => rfl) fun _ h => ⟨⟨h.1, h.2.1⟩, h.2.2.1⟩
theorem dIs (W : World) : DecT Try.prog W 66 (Sl.cells (α := Int)) (SlOk Try.prog W (fun n => [zV n]) i64) := dec_slice u66 c3 (by decide) (fun _ => rfl) (dec_i64 u3)
end Go.Proofs.Ytlbmlimaobkhpaa
