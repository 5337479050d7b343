/- The row of the law: what arguments read as; what the program's text lays. -/
import Derived.Test.YtaahjlhfmkjefaaGreatDoorGc
import Derived.Test.YtaahjlhfmkjefaaGreatDoorRows
import Derived.Test.YtaahjlhfmkjefaaGreatDoorTie
import Derived.Test.YtaahjlhfmkjefaaGreatDoorCards
import Derived.Test.YtaahjlhfmkjefaaGreatDoorMm
import Derived.LaidMore
import Derived.OpenShut
import Derived.Lib.LaidTab
import Derived.SevenTiedAt
import Derived.Deep.DeepHandedRow
import Derived.Deep.DeepWitnessRowRef
import Derived.Shelf.Vars
set_option linter.unusedVariables false
set_option linter.unusedSimpArgs false
set_option linter.unusedSectionVars false
/- The row of the law of the texts: what arguments read as; what the program's text lays. -/
namespace Go.Proofs.YtaahjlhfmkjefaaGreatDoor
open Go Go.Gv Go.ChangeShapes Go.WideShapes Go.RowKit
set_option maxRecDepth 100000
theorem own : ownKnob Tryz.prog.godebug = none := by kernel_rfl
theorem kids : Kids Tryz.prog (· < Tryz.prog.types.size) := kids_rows (by kernel_rfl) (by kernel_rfl)
theorem fullP : ∀ {t e : TypeId}, t < Tryz.prog.types.size → Tryz.prog.underlying t = some (.slice e) → 0 < Tryz.prog.cellsOf e := fun {t e} => slices_full_of Tryz.prog (by kernel_rfl) t e
/-- What a law's walk gives for its row. -/
theorem row_of {H : Type} {enc : TypeId × Value → H} {f : Func} {n : FuncId} {s : ChangeSpec} {apart fresh handsOn again : Bool} {W : World} {args : List Value} {ds : List (DataW H)} {before : List MemPlace}
    (sp : GSpec Tryz.prog n args (hv W) [] (Ret [] (.bool true))) (ht : f.params.toList.all (fun t => Nat.blt t Tryz.prog.types.size) = true) (hvars : s.vars = []) (hr : f.resultTypes = #[4])
    (hs1 : (s.fn H ds).results = [.lit (.bool true)]) (hs2 : (s.fn H ds).args = ds) (hs3 : (s.fn H ds).vars = [])
    (hW : DataW.Whole enc Tryz.prog f.params.toList s.vars apart W args ds [] before) :
    Calls Tryz.prog n ⟨args⟩ W fun e W' => ∃ v, e = .returned v ∧ s.post enc Tryz.prog f apart fresh handsOn again W ⟨args⟩ v W' := by
  refine (GSpec.law sp).mono fun e W' ⟨he, hk⟩ => ?_
  subst he
  refine ⟨_, rfl, law_post kids fullP (fun t h => ?_) hvars hr (by kernel_rfl) hs1 hs2 hs3 hW hk⟩
  have := List.all_eq_true.1 ht t h
  exact Nat.le_of_ble_eq_true this
/-! ### the variables -/
def laid7 : List (String × DataW Unit) := Rows.pillowTextsUptoRow.laid
/-- A start: the heap that the door's own run leaves, and the pinned table. -/
noncomputable def zWorld (os : Os) : World := { World.doorLaid Tryz.prog 400 os with heap := (World.doorLaid Tryz.prog 400 os).heap.modify 4 fun
      | .cells _ t frozen => .cells (Go.Pinned.utf8FirstZ.map fun (n : Nat) => Value.int .u8 (n : Int)).toArray t frozen
      | o => o }
theorem z_met (os : Os) (args : Array Value) : laidMetH Tryz.prog laid7 ((zWorld os).forCall (fun _ _ => 0) ⟨#[], args, []⟩).memory :=
  laidMetH_of_parts3 (fuel := 8) (laidMet_of_run' 8 (by kernel_rfl) (by kernel_rfl)) (by kernel_rfl) (by kernel_rfl)
theorem met_all {W : World} (h : laidMetH Tryz.prog laid7 W) : ∃ ps, DataW.LaidVars Tryz.prog W laid7 ps := by
  rw [MakeChecks.laidMetH_plain _ _ _ (by kernel_rfl)] at h
  exact ⟨h.choose, h.choose_spec.1⟩
theorem pow_is {W : World} (h : laidMetH Tryz.prog laid7 W) : Lib.TabIs Tryz.prog W Tryz.powS .u64 Lib.pow10Tab := by
  obtain ⟨ps, ⟨_, _, _, _, _, _, _, _, _, _, ⟨_, _, _, _, _, _, _, _, _, _, ⟨g2, t2, cs2, f2, p2, q2, hg2, ht2, hv2, hd2, _, _⟩, _⟩, _⟩⟩ := met_all h
  have hg : Tryz.prog.globalNamed Tryz.powS = some 1 := by kernel_rfl
  obtain rfl := Option.some.inj (hg.symm.trans hg2)
  have ht : (Tryz.prog.globals[1]?).map (·.type) = some 140 := by kernel_rfl
  obtain rfl := Option.some.inj (ht.symm.trans ht2)
  unfold Lib.TabIs
  refine (show World.var? Tryz.prog W Tryz.powS = some cs2 from hv2).trans ?_
  rw [← Lib.cells_of_tab (n := 20) (e := 120) (k := .u64) (zs := Lib.pow10Tab) (by kernel_rfl) (by kernel_rfl) (by kernel_rfl) (by kernel_rfl) hd2]
theorem pow_of {W : World} (h : laidMetH Tryz.prog laid7 W) : PowV (hv W) := fun w hw => by
  have h1 := pow_is h
  unfold Lib.TabIs World.var? at *
  cases hg : Tryz.prog.globalNamed Tryz.powS with
  | none => rw [hg] at h1; cases h1
  | some g =>
    rw [hg] at h1
    simp only [Option.bind_some] at h1 ⊢
    cases hb : W.heap[g]? with
    | none => rw [hb] at h1; cases h1
    | some o =>
      rw [hw g o hb]
      rw [hb] at h1
      exact h1
theorem iface_of {P : Program} {w : World} {t fuel : Nat} {cs : Array Value} {nm : String} {d : DataW Unit} {p : List MemPlace} {ms : Array (String × TypeId)} (hu : P.underlying t = some (.interface ms))
    (hd : DataW.trod (fun _ => ()) P w 0 (fun _ => true) false fuel t cs.toList = some (.iface nm d, p)) : ∃ te pe, cs.toList = [.iface te pe] := by
  cases fuel with
  | zero => cases hd
  | succ fuel =>
    obtain ⟨l⟩ := cs
    match l, hd with
    | [], hd => simp [DataW.trod, hu] at hd
    | x :: y :: r, hd => simp [DataW.trod, hu] at hd
    | [x], hd =>
      cases x with
      | iface te pe => exact ⟨te, pe, rfl⟩
      | _ => simp [DataW.trod, hu] at hd
theorem cell_of_var {W : World} {n : String} {g t fuel : Nat} {cs : Array Value} {nm : String} {d : DataW Unit} {p : List MemPlace} {ms : Array (String × TypeId)} (hg : Tryz.prog.globalNamed n = some g) (hv : W.var? Tryz.prog n = some cs) (hu : Tryz.prog.underlying t = some (.interface ms))
    (hd : DataW.trod (fun _ => ()) Tryz.prog W 0 (fun _ => true) false fuel t cs.toList = some (.iface nm d, p)) : ∃ ev, W.cell? ⟨g, 0, none⟩ = some ev ∧ (ev = .nilIface ∨ ∃ te pe, ev = .iface te pe) := by
  obtain ⟨te, pe, hc⟩ := iface_of hu hd
  refine ⟨.iface te pe, ?_, .inr ⟨te, pe, rfl⟩⟩
  unfold World.var? at hv
  rw [hg] at hv
  simp only [Option.bind_some] at hv
  split at hv
  · rename_i cs' ty fr hh
    obtain rfl := Option.some.inj hv
    obtain ⟨l⟩ := cs'
    obtain rfl : l = [.iface te pe] := hc
    simp [World.cell?, hh]
  · cases hv
theorem cell_keep {w W : World} (hw : ∀ b o, hv W b = some o → w.heap[b]? = some o) {a : Addr} {v : Value} (h : W.cell? a = some v) : w.cell? a = some v := by
  unfold World.cell? at h ⊢
  cases hb : W.heap[a.block]? with
  | none => rw [hb] at h; cases h
  | some o =>
    rw [hw a.block o hb]
    rw [hb] at h
    exact h
theorem var_of {W : World} (h : laidMetH Tryz.prog laid7 W) (hsh : W.ShapedOpen Tryz.prog) : VarV (hv W) := fun w hw => by
  obtain ⟨ps, ⟨_, _, _, _, _, _, _, _, _, _, ⟨_, _, _, _, _, _, _, _, _, _, ⟨_, _, _, _, _, _, _, _, _, _, ⟨_, _, _, _, _, _, _, _, _, _, ⟨g5, t5, cs5, f5, p5, q5, hg5, ht5, hv5, hd5, ⟨g6, t6, cs6, f6, p6, q6, hg6, ht6, hv6, hd6, _, _⟩, _⟩, _⟩, _⟩, _⟩, _⟩⟩ := met_all h
  have hg3 : Tryz.prog.globalNamed (laid7.getD 4 ("", .nil)).1 = some 3 := by kernel_rfl
  obtain rfl := Option.some.inj (hg3.symm.trans hg5)
  have hg2 : Tryz.prog.globalNamed (laid7.getD 5 ("", .nil)).1 = some 2 := by kernel_rfl
  obtain rfl := Option.some.inj (hg2.symm.trans hg6)
  have e5 : (Tryz.prog.globals[3]?).map (·.type) = some 61 := by kernel_rfl
  obtain rfl := Option.some.inj (e5.symm.trans ht5)
  have e6 : (Tryz.prog.globals[2]?).map (·.type) = some 61 := by kernel_rfl
  obtain rfl := Option.some.inj (e6.symm.trans ht6)
  obtain ⟨m, hm⟩ := cell_of_shapedOpen_int (g := 0) (t := 3) (zero := #[.int .i64 0]) (k := .i64) hsh (by decide +kernel) (by kernel_rfl) rfl (by kernel_rfl) (by kernel_rfl) (by kernel_rfl)
  obtain ⟨ev2, h2, h2'⟩ := cell_of_var hg2 hv6 Tryz.underlying61 hd6
  obtain ⟨ev3, h3, h3'⟩ := cell_of_var hg3 hv5 Tryz.underlying61 hd5
  exact ⟨⟨m, cell_keep hw hm⟩, ⟨ev2, cell_keep hw h2, h2'⟩, ⟨ev3, cell_keep hw h3, h3'⟩⟩
/-! ### what arguments read as -/
theorem u3 : Tryz.prog.underlying 3 = some (.int .i64) := by kernel_rfl
theorem c3 : Tryz.prog.cellsOf 3 = 1 := by kernel_rfl
structure PlA where
  no : Int
  cell : Int
  noise : Int
  slab : Int
  jump : Int
  faults : Int
  z : Sl Sh
def PlA.pl (x : PlA) : Pl := ⟨x.no, x.cell, x.noise, x.slab, x.jump, x.faults, x.z.l⟩
def PlA.cells (x : PlA) : List Value := plV x.pl x.z.a x.z.cap
theorem dSh (W : World) : DecT Tryz.prog W 66 shV fun s => i64 s.day ∧ i64 s.wt :=
  (dec_struct Tryz.underlying66 (by decide +kernel) (by kernel_rfl) (decFs_cons (dec_i64 u3) (decFs_cons (dec_i64 u3) decFs_nil))).map (fun p => ⟨p.1, p.2.1⟩) (fun _ => rfl) fun _ h => ⟨h.1, h.2.1⟩
theorem dShs (W : World) : DecT Tryz.prog W 22 (Sl.cells (α := Sh)) (SlOk Tryz.prog W shV fun s => i64 s.day ∧ i64 s.wt) := dec_slice (s := 2) Tryz.underlying22 (by kernel_rfl) (by decide) (fun _ => rfl) (dSh W)
theorem dPl (W : World) : DecT Tryz.prog W 24 PlA.cells fun x => (i64 x.no ∧ i64 x.cell ∧ i64 x.noise ∧ i64 x.slab ∧ i64 x.jump ∧ i64 x.faults) ∧ SlOk Tryz.prog W shV (fun s => i64 s.day ∧ i64 s.wt) x.z :=
  (dec_struct Tryz.underlying24 (by decide +kernel) (by kernel_rfl) (decFs_cons (dec_i64 u3) (decFs_cons (dec_i64 u3) (decFs_cons (dec_i64 u3) (decFs_cons (dec_i64 u3) (decFs_cons (dec_i64 u3) (decFs_cons (dec_i64 u3) (decFs_cons (dShs W) decFs_nil)))))))).map
    (fun p => ⟨p.1, p.2.1, p.2.2.1, p.2.2.2.1, p.2.2.2.2.1, p.2.2.2.2.2.1, p.2.2.2.2.2.2.1⟩) (fun _ => rfl) fun _ h => ⟨⟨h.1, h.2.1, h.2.2.1, h.2.2.2.1, h.2.2.2.2.1, h.2.2.2.2.2.1⟩, h.2.2.2.2.2.2.1⟩
theorem maxI {n : Nat} (h : n ≤ maxLen) : n ≤ 9223372036854775807 := by unfold maxLen at h; omega
theorem _root_.Go.Gv.SlOk.len {P : Program} {w : World} {α : Type} {g : α → List Value} {Q : α → Prop} {z : Sl α} (h : SlOk P w g Q z) : z.l.length ≤ 9223372036854775807 := maxI (Nat.le_trans h.le h.max)
theorem _root_.Go.Gv.SlOk.at {P : Program} {w : World} {α : Type} [Inhabited α] {g : α → List Value} {Q : α → Prop} {z : Sl α} (h : SlOk P w g Q z) : ∀ i < z.l.length, Q (z.l.getD i default) := fun i hi => by
  rw [List.getD_eq_getElem?_getD, List.getElem?_eq_getElem hi]
  exact h.all _ (List.getElem_mem hi)
end Go.Proofs.YtaahjlhfmkjefaaGreatDoor
