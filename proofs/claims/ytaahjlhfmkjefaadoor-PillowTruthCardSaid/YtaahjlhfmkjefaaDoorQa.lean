/- The rows of the laws: what arguments read as; the tables that the program's text lays. -/
import Derived.Test.YtaahjlhfmkjefaaDoorGc
import Derived.Test.YtaahjlhfmkjefaaDoorRows
import Derived.Test.YtaahjlhfmkjefaaDoorTie
import Derived.Test.YtaahjlhfmkjefaaDoorCards
import Derived.Test.YtaahjlhfmkjefaaDoorMi
import Derived.LaidMore
import Derived.OpenShut
import Derived.Lib.LaidTab
import Derived.SevenTiedAt
set_option linter.unusedVariables false
set_option linter.unusedSimpArgs false
set_option linter.unusedSectionVars false
/- The rows of the laws: what arguments read as; the tables that the program's text lays. -/
namespace Go.Proofs.YtaahjlhfmkjefaaDoor
open Go Go.Gv Go.ChangeShapes Go.WideShapes Go.RowKit
set_option maxRecDepth 100000
theorem own : ownKnob Tryd.prog.godebug = none := by kernel_rfl
theorem kids : Kids Tryd.prog (· < Tryd.prog.types.size) := kids_rows (by kernel_rfl) (by kernel_rfl)
theorem fullP : ∀ {t e : TypeId}, t < Tryd.prog.types.size → Tryd.prog.underlying t = some (.slice e) → 0 < Tryd.prog.cellsOf e := fun {t e} => slices_full_of Tryd.prog (by kernel_rfl) t e
/-- What a law's walk gives for its row. -/
theorem row_of {H : Type} {enc : TypeId × Value → H} {f : Func} {n : FuncId} {s : ChangeSpec} {apart fresh handsOn again : Bool} {W : World} {args : List Value} {ds : List (DataW H)} {before : List MemPlace}
    (sp : GSpec Tryd.prog n args (hv W) [] (Ret [] (.bool true))) (ht : f.params.toList.all (fun t => Nat.blt t Tryd.prog.types.size) = true) (hvars : s.vars = []) (hr : f.resultTypes = #[4])
    (hs1 : (s.fn H ds).results = [.lit (.bool true)]) (hs2 : (s.fn H ds).args = ds) (hs3 : (s.fn H ds).vars = [])
    (hW : DataW.Whole enc Tryd.prog f.params.toList s.vars apart W args ds [] before) :
    Calls Tryd.prog n ⟨args⟩ W fun e W' => ∃ v, e = .returned v ∧ s.post enc Tryd.prog f apart fresh handsOn again W ⟨args⟩ v W' := by
  refine (GSpec.law sp).mono fun e W' ⟨he, hk⟩ => ?_
  subst he
  refine ⟨_, rfl, law_post kids fullP (fun t h => ?_) hvars hr (by kernel_rfl) hs1 hs2 hs3 hW hk⟩
  have := List.all_eq_true.1 ht t h
  exact Nat.le_of_ble_eq_true this
/-! ### the tables -/
def laid3 : List (String × DataW Unit) := Rows.pillowRefutesRow.laid
/-- The door's own heap meets the condition. -/
theorem door_met (os : Os) (args : Array Value) : laidMetH Tryd.prog laid3 ((World.doorLaid Tryd.prog 400 os).forCall (fun _ _ => 0) ⟨#[], args, []⟩).memory :=
  laidMetH_of_parts3 (fuel := 8) (laidMet_of_run' 8 (by kernel_rfl) (by kernel_rfl)) (by kernel_rfl) (by kernel_rfl)
theorem pow_is {W : World} (h : laidMetH Tryd.prog laid3 W) : Lib.TabIs Tryd.prog W Tryd.powS .u64 Lib.pow10Tab := by
  rw [MakeChecks.laidMetH_plain _ _ _ (by kernel_rfl)] at h
  obtain ⟨ps, ⟨_, _, _, _, _, _, _, _, _, _, ⟨_, _, _, _, _, _, _, _, _, _, ⟨g2, t2, cs2, f2, p2, q2, hg2, ht2, hv2, hd2, _, _⟩, _⟩, _⟩, _, _⟩ := h
  have hg : Tryd.prog.globalNamed Tryd.powS = some 0 := by kernel_rfl
  obtain rfl := Option.some.inj (hg.symm.trans hg2)
  have ht : (Tryd.prog.globals[0]?).map (·.type) = some 165 := by kernel_rfl
  obtain rfl := Option.some.inj (ht.symm.trans ht2)
  unfold Lib.TabIs
  refine (show World.var? Tryd.prog W Tryd.powS = some cs2 from hv2).trans ?_
  rw [← Lib.cells_of_tab (n := 20) (e := 152) (k := .u64) (zs := Lib.pow10Tab) (by kernel_rfl) (by kernel_rfl) (by kernel_rfl) (by kernel_rfl) hd2]
theorem pow_of {W : World} (h : laidMetH Tryd.prog laid3 W) : PowV (hv W) := fun w hw => by
  have h1 := pow_is h
  unfold Lib.TabIs World.var? at *
  cases hg : Tryd.prog.globalNamed Tryd.powS with
  | none => rw [hg] at h1; cases h1
  | some g =>
    rw [hg] at h1
    simp only [Option.bind_some] at h1 ⊢
    cases hb : W.heap[g]? with
    | none => rw [hb] at h1; cases h1
    | some o =>
      rw [hw g o hb]
      rw [hb] at h1
      exact h1
/-! ### what arguments read as -/
theorem u3 : Tryd.prog.underlying 3 = some (.int .i64) := by kernel_rfl
theorem c3 : Tryd.prog.cellsOf 3 = 1 := by kernel_rfl
structure PlA where
  no : Int
  cell : Int
  noise : Int
  slab : Int
  jump : Int
  faults : Int
  z : Sl Sh
def PlA.pl (x : PlA) : Pl := ⟨x.no, x.cell, x.noise, x.slab, x.jump, x.faults, x.z.l⟩
def PlA.cells (x : PlA) : List Value := plV x.pl x.z.a x.z.cap
theorem dInts (W : World) : DecT Tryd.prog W 26 (Sl.cells (α := Int)) (SlOk Tryd.prog W (fun n => [zI n]) fun n => i64 n) := dec_slice (s := 1) Tryd.underlying26 c3 (by decide) (fun _ => rfl) (dec_i64 u3)
theorem maxI {n : Nat} (h : n ≤ maxLen) : n ≤ 9223372036854775807 := by unfold maxLen at h; omega
theorem _root_.Go.Gv.SlOk.len {P : Program} {w : World} {α : Type} {g : α → List Value} {Q : α → Prop} {z : Sl α} (h : SlOk P w g Q z) : z.l.length ≤ 9223372036854775807 := maxI (Nat.le_trans h.le h.max)
theorem _root_.Go.Gv.SlOk.at {P : Program} {w : World} {α : Type} [Inhabited α] {g : α → List Value} {Q : α → Prop} {z : Sl α} (h : SlOk P w g Q z) : ∀ i < z.l.length, Q (z.l.getD i default) := fun i hi => by
  rw [List.getD_eq_getElem?_getD, List.getElem?_eq_getElem hi]
  exact h.all _ (List.getElem_mem hi)
theorem ints_rd {w : World} {z : Sl Int} {Q : Int → Prop} (h : SlOk Tryd.prog w (fun n => [zI n]) Q z) : Rd (hv w) [] z.a (z.l.map zI) := by
  have := h.rd
  rw [flat_one] at this
  exact this
end Go.Proofs.YtaahjlhfmkjefaaDoor
