/-
  No cell of these rows narrows 'for every input' (looked for: loops, veiled, ifaces, maps, wideKeys, modest, calm, conditions, laid).
  DERIVED. THE GIVEN ROWS OF THIS SEAT. 14 by the template 'for every input the law returns true; each argument reads behind the call as it read before'; 0 by the template 'total and deterministic' (their statements: YtlbmlimaobkhpaaTotals.lean).
  GIVEN WITH THE SEED: the statements are not yours to turn. If you find one false, say at which input.
  Laid BY PROGRAM, IN A SANDBOX (cutbox-rows.mjs): the forced cells as the released guide's own fill.sh prints them over the translation a8b86bec388b1180… (all of the seat's roots in one cut). By AI agents, Wed Nov 11 2026. No macro, syntax, notation, axiom, sorry.
-/
import Derived.Test.YtlbmlimaobkhpaaChecked
import GoSem.Claim
import GoSem.ClaimJoined
import GoSem.ClaimMapViews
import Derived.JoinedTies
import Derived.KernelRfl
namespace Go.Proofs.Ytlbmlimaobkhpaa
/- THE CELL 'sum', in the pinned program and in every row, IS THE sha256 OF THE DUMP (.gsa) THAT YtlbmlimaobkhpaaProg.lean LOADS. Nothing in Lean hashes anything: it is a label: what it is worth is what the hold of that sum in a sandbox is worth. -/
noncomputable def Try.pinned : Pinned := { name := "ytlbmlimaobkhpaa", sum := "a8b86bec388b1180c7422aa809110e2522337635cfc2fa22c860be75cbc56db8", checked := Try.checked }
namespace Rows
def none {H : Type} : Left H := { results := [], args := [] }

/-- 'snowlinelaw09.RadioFrames': WHATEVER THE INPUT: true; the input reads as it did. -/
def radioFramesSpec : ChangeSpec := { name := "radioFrames", fn := fun _ => fun
  | [d1, d2] => { results := [.lit (.bool true)], args := [d1, d2] }
  | _ => none }
def radioFramesRow : OpenClaim := { program := "ytlbmlimaobkhpaa", sum := "a8b86bec388b1180c7422aa809110e2522337635cfc2fa22c860be75cbc56db8", func := "snowline/snowlinelaw09.RadioFrames", spec := "radioFrames", plainKeys := false, apart := false }
def RadioFramesSaid : Prop := radioFramesRow.holds Try.pinned (OpenSpec.ofChange radioFramesSpec)

/-- ITS FALSE NEIGHBOUR: 'it returns false'. Refute it at one input. -/
def radioFramesWrong : ChangeSpec := { name := "radioFrames", fn := fun _ => fun
  | [d1, d2] => { results := [.lit (.bool false)], args := [d1, d2] }
  | _ => none }
def RadioFramesWrongFalsely : Prop := radioFramesRow.holds Try.pinned (OpenSpec.ofChange radioFramesWrong)

/-- 'snowlinelaw09.RadioField': WHATEVER THE INPUT: true; the input reads as it did. -/
def radioFieldSpec : ChangeSpec := { name := "radioField", fn := fun _ => fun
  | [d1, d2, d3] => { results := [.lit (.bool true)], args := [d1, d2, d3] }
  | _ => none }
def radioFieldRow : OpenClaim := { program := "ytlbmlimaobkhpaa", sum := "a8b86bec388b1180c7422aa809110e2522337635cfc2fa22c860be75cbc56db8", func := "snowline/snowlinelaw09.RadioField", spec := "radioField", unfollowed := true, recurses := true, plainKeys := false, apart := false }
def RadioFieldSaid : Prop := radioFieldRow.holds Try.pinned (OpenSpec.ofChange radioFieldSpec)

/-- ITS FALSE NEIGHBOUR: 'it returns false'. Refute it at one input. -/
def radioFieldWrong : ChangeSpec := { name := "radioField", fn := fun _ => fun
  | [d1, d2, d3] => { results := [.lit (.bool false)], args := [d1, d2, d3] }
  | _ => none }
def RadioFieldWrongFalsely : Prop := radioFieldRow.holds Try.pinned (OpenSpec.ofChange radioFieldWrong)

/-- 'snowlinelaw09.RadioCodes': WHATEVER THE INPUT: true; the input reads as it did. -/
def radioCodesSpec : ChangeSpec := { name := "radioCodes", fn := fun _ => fun
  | [d1, d2, d3, d4] => { results := [.lit (.bool true)], args := [d1, d2, d3, d4] }
  | _ => none }
def radioCodesRow : OpenClaim := { program := "ytlbmlimaobkhpaa", sum := "a8b86bec388b1180c7422aa809110e2522337635cfc2fa22c860be75cbc56db8", func := "snowline/snowlinelaw09.RadioCodes", spec := "radioCodes", plainKeys := false, apart := false }
def RadioCodesSaid : Prop := radioCodesRow.holds Try.pinned (OpenSpec.ofChange radioCodesSpec)

/-- ITS FALSE NEIGHBOUR: 'it returns false'. Refute it at one input. -/
def radioCodesWrong : ChangeSpec := { name := "radioCodes", fn := fun _ => fun
  | [d1, d2, d3, d4] => { results := [.lit (.bool false)], args := [d1, d2, d3, d4] }
  | _ => none }
def RadioCodesWrongFalsely : Prop := radioCodesRow.holds Try.pinned (OpenSpec.ofChange radioCodesWrong)

/-- 'snowlinelaw09.RadioCorrects': WHATEVER THE INPUT: true; the input reads as it did. -/
def radioCorrectsSpec : ChangeSpec := { name := "radioCorrects", fn := fun _ => fun
  | [d1, d2, d3, d4] => { results := [.lit (.bool true)], args := [d1, d2, d3, d4] }
  | _ => none }
def radioCorrectsRow : OpenClaim := { program := "ytlbmlimaobkhpaa", sum := "a8b86bec388b1180c7422aa809110e2522337635cfc2fa22c860be75cbc56db8", func := "snowline/snowlinelaw09.RadioCorrects", spec := "radioCorrects", plainKeys := false, apart := false }
def RadioCorrectsSaid : Prop := radioCorrectsRow.holds Try.pinned (OpenSpec.ofChange radioCorrectsSpec)

/-- ITS FALSE NEIGHBOUR: 'it returns false'. Refute it at one input. -/
def radioCorrectsWrong : ChangeSpec := { name := "radioCorrects", fn := fun _ => fun
  | [d1, d2, d3, d4] => { results := [.lit (.bool false)], args := [d1, d2, d3, d4] }
  | _ => none }
def RadioCorrectsWrongFalsely : Prop := radioCorrectsRow.holds Try.pinned (OpenSpec.ofChange radioCorrectsWrong)

/-- 'snowlinelaw09.RadioDisks': WHATEVER THE INPUT: true; the input reads as it did. -/
def radioDisksSpec : ChangeSpec := { name := "radioDisks", fn := fun _ => fun
  | [d1, d2] => { results := [.lit (.bool true)], args := [d1, d2] }
  | _ => none }
def radioDisksRow : OpenClaim := { program := "ytlbmlimaobkhpaa", sum := "a8b86bec388b1180c7422aa809110e2522337635cfc2fa22c860be75cbc56db8", func := "snowline/snowlinelaw09.RadioDisks", spec := "radioDisks", plainKeys := false, apart := false }
def RadioDisksSaid : Prop := radioDisksRow.holds Try.pinned (OpenSpec.ofChange radioDisksSpec)

/-- ITS FALSE NEIGHBOUR: 'it returns false'. Refute it at one input. -/
def radioDisksWrong : ChangeSpec := { name := "radioDisks", fn := fun _ => fun
  | [d1, d2] => { results := [.lit (.bool false)], args := [d1, d2] }
  | _ => none }
def RadioDisksWrongFalsely : Prop := radioDisksRow.holds Try.pinned (OpenSpec.ofChange radioDisksWrong)

/-- 'snowlinelaw09.RadioOnce': WHATEVER THE INPUT: true; the input reads as it did. -/
def radioOnceSpec : ChangeSpec := { name := "radioOnce", fn := fun _ => fun
  | [d1, d2, d3] => { results := [.lit (.bool true)], args := [d1, d2, d3] }
  | _ => none }
def radioOnceRow : OpenClaim := { program := "ytlbmlimaobkhpaa", sum := "a8b86bec388b1180c7422aa809110e2522337635cfc2fa22c860be75cbc56db8", func := "snowline/snowlinelaw09.RadioOnce", spec := "radioOnce", unfollowed := true, recurses := true, plainKeys := false, apart := false }
def RadioOnceSaid : Prop := radioOnceRow.holds Try.pinned (OpenSpec.ofChange radioOnceSpec)

/-- ITS FALSE NEIGHBOUR: 'it returns false'. Refute it at one input. -/
def radioOnceWrong : ChangeSpec := { name := "radioOnce", fn := fun _ => fun
  | [d1, d2, d3] => { results := [.lit (.bool false)], args := [d1, d2, d3] }
  | _ => none }
def RadioOnceWrongFalsely : Prop := radioOnceRow.holds Try.pinned (OpenSpec.ofChange radioOnceWrong)

/-- 'snowlinelaw09.RadioAgree': WHATEVER THE INPUT: true; the input reads as it did. -/
def radioAgreeSpec : ChangeSpec := { name := "radioAgree", fn := fun _ => fun
  | [d1, d2, d3] => { results := [.lit (.bool true)], args := [d1, d2, d3] }
  | _ => none }
def radioAgreeRow : OpenClaim := { program := "ytlbmlimaobkhpaa", sum := "a8b86bec388b1180c7422aa809110e2522337635cfc2fa22c860be75cbc56db8", func := "snowline/snowlinelaw09.RadioAgree", spec := "radioAgree", unfollowed := true, recurses := true, plainKeys := false, apart := false }
def RadioAgreeSaid : Prop := radioAgreeRow.holds Try.pinned (OpenSpec.ofChange radioAgreeSpec)

/-- ITS FALSE NEIGHBOUR: 'it returns false'. Refute it at one input. -/
def radioAgreeWrong : ChangeSpec := { name := "radioAgree", fn := fun _ => fun
  | [d1, d2, d3] => { results := [.lit (.bool false)], args := [d1, d2, d3] }
  | _ => none }
def RadioAgreeWrongFalsely : Prop := radioAgreeRow.holds Try.pinned (OpenSpec.ofChange radioAgreeWrong)

/-- 'snowlinelaw09.RadioLeast': WHATEVER THE INPUT: true; the input reads as it did. -/
def radioLeastSpec : ChangeSpec := { name := "radioLeast", fn := fun _ => fun
  | [d1, d2, d3] => { results := [.lit (.bool true)], args := [d1, d2, d3] }
  | _ => none }
def radioLeastRow : OpenClaim := { program := "ytlbmlimaobkhpaa", sum := "a8b86bec388b1180c7422aa809110e2522337635cfc2fa22c860be75cbc56db8", func := "snowline/snowlinelaw09.RadioLeast", spec := "radioLeast", unfollowed := true, recurses := true, plainKeys := false, apart := false }
def RadioLeastSaid : Prop := radioLeastRow.holds Try.pinned (OpenSpec.ofChange radioLeastSpec)

/-- ITS FALSE NEIGHBOUR: 'it returns false'. Refute it at one input. -/
def radioLeastWrong : ChangeSpec := { name := "radioLeast", fn := fun _ => fun
  | [d1, d2, d3] => { results := [.lit (.bool false)], args := [d1, d2, d3] }
  | _ => none }
def RadioLeastWrongFalsely : Prop := radioLeastRow.holds Try.pinned (OpenSpec.ofChange radioLeastWrong)

/-- 'snowlinelaw09.RadioCrash': WHATEVER THE INPUT: true; the input reads as it did. -/
def radioCrashSpec : ChangeSpec := { name := "radioCrash", fn := fun _ => fun
  | [d1, d2, d3, d4, d5] => { results := [.lit (.bool true)], args := [d1, d2, d3, d4, d5] }
  | _ => none }
def radioCrashRow : OpenClaim := { program := "ytlbmlimaobkhpaa", sum := "a8b86bec388b1180c7422aa809110e2522337635cfc2fa22c860be75cbc56db8", func := "snowline/snowlinelaw09.RadioCrash", spec := "radioCrash", unfollowed := true, recurses := true, plainKeys := false, apart := false }
def RadioCrashSaid : Prop := radioCrashRow.holds Try.pinned (OpenSpec.ofChange radioCrashSpec)

/-- ITS FALSE NEIGHBOUR: 'it returns false'. Refute it at one input. -/
def radioCrashWrong : ChangeSpec := { name := "radioCrash", fn := fun _ => fun
  | [d1, d2, d3, d4, d5] => { results := [.lit (.bool false)], args := [d1, d2, d3, d4, d5] }
  | _ => none }
def RadioCrashWrongFalsely : Prop := radioCrashRow.holds Try.pinned (OpenSpec.ofChange radioCrashWrong)

/-- 'snowlinelaw09.RadioOpens': WHATEVER THE INPUT: true; the input reads as it did. -/
def radioOpensSpec : ChangeSpec := { name := "radioOpens", fn := fun _ => fun
  | [d1, d2, d3, d4] => { results := [.lit (.bool true)], args := [d1, d2, d3, d4] }
  | _ => none }
def radioOpensRow : OpenClaim := { program := "ytlbmlimaobkhpaa", sum := "a8b86bec388b1180c7422aa809110e2522337635cfc2fa22c860be75cbc56db8", func := "snowline/snowlinelaw09.RadioOpens", spec := "radioOpens", unfollowed := true, recurses := true, plainKeys := false, apart := false }
def RadioOpensSaid : Prop := radioOpensRow.holds Try.pinned (OpenSpec.ofChange radioOpensSpec)

/-- ITS FALSE NEIGHBOUR: 'it returns false'. Refute it at one input. -/
def radioOpensWrong : ChangeSpec := { name := "radioOpens", fn := fun _ => fun
  | [d1, d2, d3, d4] => { results := [.lit (.bool false)], args := [d1, d2, d3, d4] }
  | _ => none }
def RadioOpensWrongFalsely : Prop := radioOpensRow.holds Try.pinned (OpenSpec.ofChange radioOpensWrong)

/-- 'snowlinelaw09.RadioDoes': WHATEVER THE INPUT: true; the input reads as it did. -/
def radioDoesSpec : ChangeSpec := { name := "radioDoes", fn := fun _ => fun
  | [d1, d2] => { results := [.lit (.bool true)], args := [d1, d2] }
  | _ => none }
def radioDoesRow : OpenClaim := { program := "ytlbmlimaobkhpaa", sum := "a8b86bec388b1180c7422aa809110e2522337635cfc2fa22c860be75cbc56db8", func := "snowline/snowlinelaw09.RadioDoes", spec := "radioDoes", unfollowed := true, recurses := true, plainKeys := false, apart := false }
def RadioDoesSaid : Prop := radioDoesRow.holds Try.pinned (OpenSpec.ofChange radioDoesSpec)

/-- ITS FALSE NEIGHBOUR: 'it returns false'. Refute it at one input. -/
def radioDoesWrong : ChangeSpec := { name := "radioDoes", fn := fun _ => fun
  | [d1, d2] => { results := [.lit (.bool false)], args := [d1, d2] }
  | _ => none }
def RadioDoesWrongFalsely : Prop := radioDoesRow.holds Try.pinned (OpenSpec.ofChange radioDoesWrong)

/-- 'snowlinelaw09.RadioHears': WHATEVER THE INPUT: true; the input reads as it did. -/
def radioHearsSpec : ChangeSpec := { name := "radioHears", fn := fun _ => fun
  | [d1, d2] => { results := [.lit (.bool true)], args := [d1, d2] }
  | _ => none }
def radioHearsRow : OpenClaim := { program := "ytlbmlimaobkhpaa", sum := "a8b86bec388b1180c7422aa809110e2522337635cfc2fa22c860be75cbc56db8", func := "snowline/snowlinelaw09.RadioHears", spec := "radioHears", unfollowed := true, recurses := true, plainKeys := false, apart := false }
def RadioHearsSaid : Prop := radioHearsRow.holds Try.pinned (OpenSpec.ofChange radioHearsSpec)

/-- ITS FALSE NEIGHBOUR: 'it returns false'. Refute it at one input. -/
def radioHearsWrong : ChangeSpec := { name := "radioHears", fn := fun _ => fun
  | [d1, d2] => { results := [.lit (.bool false)], args := [d1, d2] }
  | _ => none }
def RadioHearsWrongFalsely : Prop := radioHearsRow.holds Try.pinned (OpenSpec.ofChange radioHearsWrong)

/-- 'snowlinelaw09.RadioMessages': WHATEVER THE INPUT: true; the input reads as it did. -/
def radioMessagesSpec : ChangeSpec := { name := "radioMessages", fn := fun _ => fun
  | [d1, d2, d3, d4] => { results := [.lit (.bool true)], args := [d1, d2, d3, d4] }
  | _ => none }
def radioMessagesRow : OpenClaim := { program := "ytlbmlimaobkhpaa", sum := "a8b86bec388b1180c7422aa809110e2522337635cfc2fa22c860be75cbc56db8", func := "snowline/snowlinelaw09.RadioMessages", spec := "radioMessages", unfollowed := true, recurses := true, plainKeys := false, apart := false }
def RadioMessagesSaid : Prop := radioMessagesRow.holds Try.pinned (OpenSpec.ofChange radioMessagesSpec)

/-- ITS FALSE NEIGHBOUR: 'it returns false'. Refute it at one input. -/
def radioMessagesWrong : ChangeSpec := { name := "radioMessages", fn := fun _ => fun
  | [d1, d2, d3, d4] => { results := [.lit (.bool false)], args := [d1, d2, d3, d4] }
  | _ => none }
def RadioMessagesWrongFalsely : Prop := radioMessagesRow.holds Try.pinned (OpenSpec.ofChange radioMessagesWrong)

/-- 'snowlinelaw09.RadioArrives': WHATEVER THE INPUT: true; the input reads as it did. -/
def radioArrivesSpec : ChangeSpec := { name := "radioArrives", fn := fun _ => fun
  | [d1, d2, d3, d4, d5] => { results := [.lit (.bool true)], args := [d1, d2, d3, d4, d5] }
  | _ => none }
def radioArrivesRow : OpenClaim := { program := "ytlbmlimaobkhpaa", sum := "a8b86bec388b1180c7422aa809110e2522337635cfc2fa22c860be75cbc56db8", func := "snowline/snowlinelaw09.RadioArrives", spec := "radioArrives", unfollowed := true, recurses := true, plainKeys := false, apart := false }
def RadioArrivesSaid : Prop := radioArrivesRow.holds Try.pinned (OpenSpec.ofChange radioArrivesSpec)

/-- ITS FALSE NEIGHBOUR: 'it returns false'. Refute it at one input. -/
def radioArrivesWrong : ChangeSpec := { name := "radioArrives", fn := fun _ => fun
  | [d1, d2, d3, d4, d5] => { results := [.lit (.bool false)], args := [d1, d2, d3, d4, d5] }
  | _ => none }
def RadioArrivesWrongFalsely : Prop := radioArrivesRow.holds Try.pinned (OpenSpec.ofChange radioArrivesWrong)

/- THE SECOND FORM. 'bulk': how many values and letters a reading holds, each counted each time it is reached (what is shared counts as often as it is met; a slice's spare places count too). A statement '..UptoSaid' is the law's where the arguments, and the package variables that the reading takes, are together of bulk at most 1048576: NARROWER than '..Said'. Prove '..Said' where nothing that the law and all that it calls make is longer than what came in: it says more and counts as full. Else prove '..UptoSaid'. A law counts once. -/
mutual
def uptoBulk {H : Type} : DataW H → Nat
  | .lit (.string bytes) => bytes.length + 1
  | .lit _ => 1
  | .nil => 1
  | .ptr d => uptoBulk d + 1
  | .slice elems spare => uptoBulkAll elems + uptoBulkAll spare + 1
  | .agg parts => uptoBulkAll parts + 1
  | .iface _ d => uptoBulk d + 1
  | .map entries => uptoBulkEntries entries + 1
  | .held _ => 1
def uptoBulkAll {H : Type} : List (DataW H) → Nat
  | [] => 0
  | d :: r => uptoBulk d + uptoBulkAll r
def uptoBulkEntries {H : Type} : List (Lit × DataW H) → Nat
  | [] => 0
  | x :: r => uptoBulkEntry x + uptoBulkEntries r
def uptoBulkEntry {H : Type} : Lit × DataW H → Nat
  | (.string bytes, d) => bytes.length + uptoBulk d + 1
  | (_, d) => uptoBulk d + 1
 end
def uptoSmall : (H : Type) → List (DataW H) → Bool := fun _ ds => decide (uptoBulkAll ds ≤ 1048576)
def OpenSpec.upto (s : _root_.Go.ChangeSpec) : _root_.Go.OpenSpec := { _root_.Go.OpenSpec.ofChange s with cond := some uptoSmall }

/-- 'snowlinelaw09.RadioFrames', WHERE WHAT IT READS IS OF BULK AT MOST 1048576: true; the input reads as it did. -/
def radioFramesUptoRow : OpenClaim := { program := "ytlbmlimaobkhpaa", sum := "a8b86bec388b1180c7422aa809110e2522337635cfc2fa22c860be75cbc56db8", func := "snowline/snowlinelaw09.RadioFrames", spec := "radioFrames", plainKeys := false, apart := false, narrowed := true }
def RadioFramesUptoSaid : Prop := radioFramesUptoRow.holds Try.pinned (OpenSpec.upto radioFramesSpec)

/-- 'snowlinelaw09.RadioField', WHERE WHAT IT READS IS OF BULK AT MOST 1048576: true; the input reads as it did. -/
def radioFieldUptoRow : OpenClaim := { program := "ytlbmlimaobkhpaa", sum := "a8b86bec388b1180c7422aa809110e2522337635cfc2fa22c860be75cbc56db8", func := "snowline/snowlinelaw09.RadioField", spec := "radioField", unfollowed := true, recurses := true, plainKeys := false, apart := false, narrowed := true }
def RadioFieldUptoSaid : Prop := radioFieldUptoRow.holds Try.pinned (OpenSpec.upto radioFieldSpec)

/-- 'snowlinelaw09.RadioCodes', WHERE WHAT IT READS IS OF BULK AT MOST 1048576: true; the input reads as it did. -/
def radioCodesUptoRow : OpenClaim := { program := "ytlbmlimaobkhpaa", sum := "a8b86bec388b1180c7422aa809110e2522337635cfc2fa22c860be75cbc56db8", func := "snowline/snowlinelaw09.RadioCodes", spec := "radioCodes", plainKeys := false, apart := false, narrowed := true }
def RadioCodesUptoSaid : Prop := radioCodesUptoRow.holds Try.pinned (OpenSpec.upto radioCodesSpec)

/-- 'snowlinelaw09.RadioCorrects', WHERE WHAT IT READS IS OF BULK AT MOST 1048576: true; the input reads as it did. -/
def radioCorrectsUptoRow : OpenClaim := { program := "ytlbmlimaobkhpaa", sum := "a8b86bec388b1180c7422aa809110e2522337635cfc2fa22c860be75cbc56db8", func := "snowline/snowlinelaw09.RadioCorrects", spec := "radioCorrects", plainKeys := false, apart := false, narrowed := true }
def RadioCorrectsUptoSaid : Prop := radioCorrectsUptoRow.holds Try.pinned (OpenSpec.upto radioCorrectsSpec)

/-- 'snowlinelaw09.RadioDisks', WHERE WHAT IT READS IS OF BULK AT MOST 1048576: true; the input reads as it did. -/
def radioDisksUptoRow : OpenClaim := { program := "ytlbmlimaobkhpaa", sum := "a8b86bec388b1180c7422aa809110e2522337635cfc2fa22c860be75cbc56db8", func := "snowline/snowlinelaw09.RadioDisks", spec := "radioDisks", plainKeys := false, apart := false, narrowed := true }
def RadioDisksUptoSaid : Prop := radioDisksUptoRow.holds Try.pinned (OpenSpec.upto radioDisksSpec)

/-- 'snowlinelaw09.RadioOnce', WHERE WHAT IT READS IS OF BULK AT MOST 1048576: true; the input reads as it did. -/
def radioOnceUptoRow : OpenClaim := { program := "ytlbmlimaobkhpaa", sum := "a8b86bec388b1180c7422aa809110e2522337635cfc2fa22c860be75cbc56db8", func := "snowline/snowlinelaw09.RadioOnce", spec := "radioOnce", unfollowed := true, recurses := true, plainKeys := false, apart := false, narrowed := true }
def RadioOnceUptoSaid : Prop := radioOnceUptoRow.holds Try.pinned (OpenSpec.upto radioOnceSpec)

/-- 'snowlinelaw09.RadioAgree', WHERE WHAT IT READS IS OF BULK AT MOST 1048576: true; the input reads as it did. -/
def radioAgreeUptoRow : OpenClaim := { program := "ytlbmlimaobkhpaa", sum := "a8b86bec388b1180c7422aa809110e2522337635cfc2fa22c860be75cbc56db8", func := "snowline/snowlinelaw09.RadioAgree", spec := "radioAgree", unfollowed := true, recurses := true, plainKeys := false, apart := false, narrowed := true }
def RadioAgreeUptoSaid : Prop := radioAgreeUptoRow.holds Try.pinned (OpenSpec.upto radioAgreeSpec)

/-- 'snowlinelaw09.RadioLeast', WHERE WHAT IT READS IS OF BULK AT MOST 1048576: true; the input reads as it did. -/
def radioLeastUptoRow : OpenClaim := { program := "ytlbmlimaobkhpaa", sum := "a8b86bec388b1180c7422aa809110e2522337635cfc2fa22c860be75cbc56db8", func := "snowline/snowlinelaw09.RadioLeast", spec := "radioLeast", unfollowed := true, recurses := true, plainKeys := false, apart := false, narrowed := true }
def RadioLeastUptoSaid : Prop := radioLeastUptoRow.holds Try.pinned (OpenSpec.upto radioLeastSpec)

/-- 'snowlinelaw09.RadioCrash', WHERE WHAT IT READS IS OF BULK AT MOST 1048576: true; the input reads as it did. -/
def radioCrashUptoRow : OpenClaim := { program := "ytlbmlimaobkhpaa", sum := "a8b86bec388b1180c7422aa809110e2522337635cfc2fa22c860be75cbc56db8", func := "snowline/snowlinelaw09.RadioCrash", spec := "radioCrash", unfollowed := true, recurses := true, plainKeys := false, apart := false, narrowed := true }
def RadioCrashUptoSaid : Prop := radioCrashUptoRow.holds Try.pinned (OpenSpec.upto radioCrashSpec)

/-- 'snowlinelaw09.RadioOpens', WHERE WHAT IT READS IS OF BULK AT MOST 1048576: true; the input reads as it did. -/
def radioOpensUptoRow : OpenClaim := { program := "ytlbmlimaobkhpaa", sum := "a8b86bec388b1180c7422aa809110e2522337635cfc2fa22c860be75cbc56db8", func := "snowline/snowlinelaw09.RadioOpens", spec := "radioOpens", unfollowed := true, recurses := true, plainKeys := false, apart := false, narrowed := true }
def RadioOpensUptoSaid : Prop := radioOpensUptoRow.holds Try.pinned (OpenSpec.upto radioOpensSpec)

/-- 'snowlinelaw09.RadioDoes', WHERE WHAT IT READS IS OF BULK AT MOST 1048576: true; the input reads as it did. -/
def radioDoesUptoRow : OpenClaim := { program := "ytlbmlimaobkhpaa", sum := "a8b86bec388b1180c7422aa809110e2522337635cfc2fa22c860be75cbc56db8", func := "snowline/snowlinelaw09.RadioDoes", spec := "radioDoes", unfollowed := true, recurses := true, plainKeys := false, apart := false, narrowed := true }
def RadioDoesUptoSaid : Prop := radioDoesUptoRow.holds Try.pinned (OpenSpec.upto radioDoesSpec)

/-- 'snowlinelaw09.RadioHears', WHERE WHAT IT READS IS OF BULK AT MOST 1048576: true; the input reads as it did. -/
def radioHearsUptoRow : OpenClaim := { program := "ytlbmlimaobkhpaa", sum := "a8b86bec388b1180c7422aa809110e2522337635cfc2fa22c860be75cbc56db8", func := "snowline/snowlinelaw09.RadioHears", spec := "radioHears", unfollowed := true, recurses := true, plainKeys := false, apart := false, narrowed := true }
def RadioHearsUptoSaid : Prop := radioHearsUptoRow.holds Try.pinned (OpenSpec.upto radioHearsSpec)

/-- 'snowlinelaw09.RadioMessages', WHERE WHAT IT READS IS OF BULK AT MOST 1048576: true; the input reads as it did. -/
def radioMessagesUptoRow : OpenClaim := { program := "ytlbmlimaobkhpaa", sum := "a8b86bec388b1180c7422aa809110e2522337635cfc2fa22c860be75cbc56db8", func := "snowline/snowlinelaw09.RadioMessages", spec := "radioMessages", unfollowed := true, recurses := true, plainKeys := false, apart := false, narrowed := true }
def RadioMessagesUptoSaid : Prop := radioMessagesUptoRow.holds Try.pinned (OpenSpec.upto radioMessagesSpec)

/-- 'snowlinelaw09.RadioArrives', WHERE WHAT IT READS IS OF BULK AT MOST 1048576: true; the input reads as it did. -/
def radioArrivesUptoRow : OpenClaim := { program := "ytlbmlimaobkhpaa", sum := "a8b86bec388b1180c7422aa809110e2522337635cfc2fa22c860be75cbc56db8", func := "snowline/snowlinelaw09.RadioArrives", spec := "radioArrives", unfollowed := true, recurses := true, plainKeys := false, apart := false, narrowed := true }
def RadioArrivesUptoSaid : Prop := radioArrivesUptoRow.holds Try.pinned (OpenSpec.upto radioArrivesSpec)

end Rows
end Go.Proofs.Ytlbmlimaobkhpaa
