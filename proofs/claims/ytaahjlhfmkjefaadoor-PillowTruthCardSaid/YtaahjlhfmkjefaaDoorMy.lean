/- What a hidden load reads as. -/
import Derived.Test.YtaahjlhfmkjefaaDoorQa
import Derived.Test.YtaahjlhfmkjefaaDoorMx
set_option linter.unusedVariables false
set_option linter.unusedSimpArgs false
set_option linter.unusedSectionVars false
/- What a hidden load reads as. -/
namespace Go.Proofs.YtaahjlhfmkjefaaDoor
open Go Go.Gv Go.ChangeShapes Go.WideShapes Go.RowKit
set_option maxRecDepth 100000
structure TrA where
  noise : Int
  slab : Int
  jump : Int
  faults : Int
  first : Int
  z5 : Sl Int
  z6 : Sl Int
  z7 : Sl Int
  z8 : Sl Int
  z9 : Sl Int
  slack : Int
def TrA.tr (x : TrA) : Tr := ⟨x.noise, x.slab, x.jump, x.faults, x.first, x.z5.l, x.z6.l, x.z7.l, x.z8.l, x.z9.l, x.slack⟩
def TrA.cells (x : TrA) : List Value := trV x.tr (x.z5.a, x.z5.cap) (x.z6.a, x.z6.cap) (x.z7.a, x.z7.cap) (x.z8.a, x.z8.cap) (x.z9.a, x.z9.cap)
theorem dTr (W : World) : DecT Tryd.prog W 62 TrA.cells fun x => SlOk Tryd.prog W (fun n => [zI n]) (fun n => i64 n) x.z5 ∧ SlOk Tryd.prog W (fun n => [zI n]) (fun n => i64 n) x.z6 ∧ SlOk Tryd.prog W (fun n => [zI n]) (fun n => i64 n) x.z7 ∧ SlOk Tryd.prog W (fun n => [zI n]) (fun n => i64 n) x.z8 ∧ SlOk Tryd.prog W (fun n => [zI n]) (fun n => i64 n) x.z9 :=
  (dec_struct Tryd.underlying62 (by decide +kernel) (by kernel_rfl) (decFs_cons (dec_i64 u3) (decFs_cons (dec_i64 u3) (decFs_cons (dec_i64 u3) (decFs_cons (dec_i64 u3) (decFs_cons (dec_i64 u3) (decFs_cons (dInts W) (decFs_cons (dInts W) (decFs_cons (dInts W) (decFs_cons (dInts W) (decFs_cons (dInts W) (decFs_cons (dec_i64 u3) decFs_nil)))))))))))).map
    (fun p => ⟨p.1, p.2.1, p.2.2.1, p.2.2.2.1, p.2.2.2.2.1, p.2.2.2.2.2.1, p.2.2.2.2.2.2.1, p.2.2.2.2.2.2.2.1, p.2.2.2.2.2.2.2.2.1, p.2.2.2.2.2.2.2.2.2.1, p.2.2.2.2.2.2.2.2.2.2.1⟩) (fun _ => rfl)
    fun _ h => ⟨h.2.2.2.2.2.1, h.2.2.2.2.2.2.1, h.2.2.2.2.2.2.2.1, h.2.2.2.2.2.2.2.2.1, h.2.2.2.2.2.2.2.2.2.1⟩
end Go.Proofs.YtaahjlhfmkjefaaDoor
