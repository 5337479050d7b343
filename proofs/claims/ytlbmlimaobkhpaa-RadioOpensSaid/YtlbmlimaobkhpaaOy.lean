/- The contracts of what is wanted. -/
import Derived.Test.YtlbmlimaobkhpaaKd
import Derived.Test.YtlbmlimaobkhpaaOb
set_option linter.unusedVariables false
set_option linter.unusedSimpArgs false
set_option linter.unusedSectionVars false
/- RadioOnce: the contracts as the law needs them. -/
namespace Go.Proofs.Ytlbmlimaobkhpaa
open Go Go.Gv
set_option linter.unusedSimpArgs false
set_option linter.unusedVariables false
theorem want_own (L : List (List En)) : ∀ k, k ≤ L.length → wantI L (L.map fun q => (q.length : Int)) (L.map sumL) k = []
  | 0, _ => rfl
  | k + 1, hk => by
    rw [wantI, want_own L k (by omega), mapD (d := []) (by omega), mapD (d := []) (by omega), List.nil_append]
    unfold wantN
    rw [Int.toNat_natCast, List.take_length, if_neg (fun h => h.elim (fun h => by omega) fun h => h rfl), List.drop_length]
/-- What a book wants for its own tally: nothing. -/
theorem f58L (r : Dr) (b : Br) (S : DB) (A B : Buf) (hw : wfL S.2.logs) (hk : bOk r S.1 b S.2) (h : View) (hA : A.ok 1 ((S.2.logs.map fun q => (q.length : Int)).map zV) S.2.logs.length) (hB : B.ok 1 ((S.2.logs.map sumL).map uN) S.2.logs.length) :
    GSpec Try.prog 58 [pP b.p, .agg ⟨[.slice A.a S.2.logs.length A.cap, .slice B.a S.2.logs.length B.cap]⟩] h (bH r S.1 b S.2 ++ (A.hp 3 ((S.2.logs.map fun q => (q.length : Int)).map zV) ++ B.hp 108 ((S.2.logs.map sumL).map uN)))
      (New (bH r S.1 b S.2 ++ (A.hp 3 ((S.2.logs.map fun q => (q.length : Int)).map zV) ++ B.hp 108 ((S.2.logs.map sumL).map uN))) fun v H => ∃ C : Buf, v = .tuple ⟨[.slice C.a 0 C.cap, .int .i64 0]⟩ ∧ H = C.hp 70 [] ∧ C.ok 3 [] 0) := by
  have h8 := hw.len
  have e := f58 r b S ⟨A.a, A.cap, S.2.logs.map fun q => (q.length : Int), B.a, B.cap, S.2.logs.map sumL⟩ (A.hp 3 ((S.2.logs.map fun q => (q.length : Int)).map zV) ++ B.hp 108 ((S.2.logs.map sumL).map uN)) hw hk (by simp only [List.length_map]) (by simp only [List.length_map])
    (fun n hn => by obtain ⟨q, _, rfl⟩ := List.mem_map.1 hn; omega) h ⟨Rd.appR (Rd.appL (Buf.rd hA)), Rd.appR (Rd.appR (Buf.rd hB)), by simp only [List.length_map]; omega, by simp only [List.length_map]; omega⟩
  simp only [tyV, List.length_map, want_own S.2.logs _ (Nat.le_refl _)] at e
  exact e
end Go.Proofs.Ytlbmlimaobkhpaa
