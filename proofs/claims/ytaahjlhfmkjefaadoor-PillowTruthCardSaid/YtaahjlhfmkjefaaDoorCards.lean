/-
  DERIVED. GIVEN WITH THE SEED: THE CARDS: each row of YtaahjlhfmkjefaaDoorRows.lean that lists a variable, with what it lists TIED to the program's text (the seventh form; the later family's looks); each row that meets fmt, with fmt's text TOLD by the authors' own Lean function (tested against real Go, not proved from fmt's source: count such statements apart). THE CARD IS WHAT COUNTS. Prove the row's statement (the work); the ties are given (YtaahjlhfmkjefaaDoorTie.lean); close each card by the builder's one call (the guide's Derived/Test/ToyasCard.lean, 'card_holds'). Laid BY PROGRAM, IN A SANDBOX (cutbox-door.mjs). By AI agents, Wed Nov 11 2026. No macro, syntax, notation, axiom, sorry.
-/
import Derived.Test.YtaahjlhfmkjefaaDoorRows
import GoSem.ClaimSeven
namespace Go.Proofs.YtaahjlhfmkjefaaDoor
namespace Rows

/-- THE TIED CARD OF 'snowlinelaw03.PillowCases'. -/
def pillowCasesCard : Claim7 := { stood := { row := pillowCasesRow, standIns := [], harness := (true, "a0002efd006c31436651839d86a6c7dddfc6e496a9d3301b07fd3f220070f58a"), looks := false }, kinds := [], alts := [], laidByText := true, laidKinds := [.data, .data, .data], laidTests := true, laidLooks := .later }
def PillowCasesCardSaid : Prop := Claim7.holds Tryd.pinned (.plain (OpenSpec.ofChange pillowCasesSpec)) pillowCasesCard

/-- THE TIED CARD OF 'snowlinelaw03.PillowPossible'. -/
def pillowPossibleCard : Claim7 := { stood := { row := pillowPossibleRow, standIns := [], harness := (true, "a0002efd006c31436651839d86a6c7dddfc6e496a9d3301b07fd3f220070f58a"), looks := false }, kinds := [], alts := [], laidByText := true, laidKinds := [.data, .data, .data], laidTests := true, laidLooks := .later }
def PillowPossibleCardSaid : Prop := Claim7.holds Tryd.pinned (.plain (OpenSpec.ofChange pillowPossibleSpec)) pillowPossibleCard

/-- THE TIED CARD OF 'snowlinelaw03.PillowWider'. -/
def pillowWiderCard : Claim7 := { stood := { row := pillowWiderRow, standIns := [], harness := (true, "a0002efd006c31436651839d86a6c7dddfc6e496a9d3301b07fd3f220070f58a"), looks := false }, kinds := [], alts := [], laidByText := true, laidKinds := [.data, .data, .data], laidTests := true, laidLooks := .later }
def PillowWiderCardSaid : Prop := Claim7.holds Tryd.pinned (.plain (OpenSpec.ofChange pillowWiderSpec)) pillowWiderCard

/-- THE TIED CARD OF 'snowlinelaw03.PillowRefutes'. -/
def pillowRefutesCard : Claim7 := { stood := { row := pillowRefutesRow, standIns := [], harness := (true, "a0002efd006c31436651839d86a6c7dddfc6e496a9d3301b07fd3f220070f58a"), looks := false }, kinds := [], alts := [], laidByText := true, laidKinds := [.data, .data, .data], laidTests := true, laidLooks := .later }
def PillowRefutesCardSaid : Prop := Claim7.holds Tryd.pinned (.plain (OpenSpec.ofChange pillowRefutesSpec)) pillowRefutesCard

/-- THE TIED CARD OF 'snowlinelaw03.PillowPairs'. -/
def pillowPairsCard : Claim7 := { stood := { row := pillowPairsRow, standIns := [], harness := (true, "a0002efd006c31436651839d86a6c7dddfc6e496a9d3301b07fd3f220070f58a"), looks := false }, kinds := [], alts := [], laidByText := true, laidKinds := [.data, .data, .data], laidTests := true, laidLooks := .later }
def PillowPairsCardSaid : Prop := Claim7.holds Tryd.pinned (.plain (OpenSpec.ofChange pillowPairsSpec)) pillowPairsCard

/-- THE TIED CARD OF 'snowlinelaw03.PillowAll'. -/
def pillowAllCard : Claim7 := { stood := { row := pillowAllRow, standIns := [], harness := (true, "a0002efd006c31436651839d86a6c7dddfc6e496a9d3301b07fd3f220070f58a"), looks := false }, kinds := [], alts := [], laidByText := true, laidKinds := [.data, .data, .data], laidTests := true, laidLooks := .later }
def PillowAllCardSaid : Prop := Claim7.holds Tryd.pinned (.plain (OpenSpec.ofChange pillowAllSpec)) pillowAllCard

/-- THE TIED CARD OF 'snowlinelaw03.PillowFurther'. -/
def pillowFurtherCard : Claim7 := { stood := { row := pillowFurtherRow, standIns := [], harness := (true, "a0002efd006c31436651839d86a6c7dddfc6e496a9d3301b07fd3f220070f58a"), looks := false }, kinds := [], alts := [], laidByText := true, laidKinds := [.data, .data, .data], laidTests := true, laidLooks := .later }
def PillowFurtherCardSaid : Prop := Claim7.holds Tryd.pinned (.plain (OpenSpec.ofChange pillowFurtherSpec)) pillowFurtherCard

/-- THE TIED CARD OF 'snowlinelaw03.PillowTruth'. -/
def pillowTruthCard : Claim7 := { stood := { row := pillowTruthRow, standIns := [], harness := (true, "a0002efd006c31436651839d86a6c7dddfc6e496a9d3301b07fd3f220070f58a"), looks := false }, kinds := [], alts := [], laidByText := true, laidKinds := [.data, .data, .data], laidTests := true, laidLooks := .later }
def PillowTruthCardSaid : Prop := Claim7.holds Tryd.pinned (.plain (OpenSpec.ofChange pillowTruthSpec)) pillowTruthCard

/-- THE TIED CARD OF 'snowlinelaw03.PillowTree'. -/
def pillowTreeCard : Claim7 := { stood := { row := pillowTreeRow, standIns := [], harness := (true, "a0002efd006c31436651839d86a6c7dddfc6e496a9d3301b07fd3f220070f58a"), looks := false }, kinds := [], alts := [], laidByText := true, laidKinds := [.data, .data, .data], laidTests := true, laidLooks := .later }
def PillowTreeCardSaid : Prop := Claim7.holds Tryd.pinned (.plain (OpenSpec.ofChange pillowTreeSpec)) pillowTreeCard

/-- THE TIED CARD OF 'snowlinelaw03.PillowChecks'. -/
def pillowChecksCard : Claim7 := { stood := { row := pillowChecksRow, standIns := [], harness := (true, "a0002efd006c31436651839d86a6c7dddfc6e496a9d3301b07fd3f220070f58a"), looks := false }, kinds := [], alts := [], laidByText := true, laidKinds := [.data, .data, .data], laidTests := true, laidLooks := .later }
def PillowChecksCardSaid : Prop := Claim7.holds Tryd.pinned (.plain (OpenSpec.ofChange pillowChecksSpec)) pillowChecksCard

/-- THE TIED CARD OF 'snowlinelaw03.PillowTrees'. -/
def pillowTreesCard : Claim7 := { stood := { row := pillowTreesRow, standIns := [], harness := (true, "a0002efd006c31436651839d86a6c7dddfc6e496a9d3301b07fd3f220070f58a"), looks := false }, kinds := [], alts := [], laidByText := true, laidKinds := [.data, .data, .data], laidTests := true, laidLooks := .later }
def PillowTreesCardSaid : Prop := Claim7.holds Tryd.pinned (.plain (OpenSpec.ofChange pillowTreesSpec)) pillowTreesCard

/-- THE TIED CARD OF 'snowlinelaw03.PillowWitnesses'. -/
def pillowWitnessesCard : Claim7 := { stood := { row := pillowWitnessesRow, standIns := [], harness := (true, "a0002efd006c31436651839d86a6c7dddfc6e496a9d3301b07fd3f220070f58a"), looks := false }, kinds := [], alts := [], laidByText := true, laidKinds := [.data, .data, .data], laidTests := true, laidLooks := .later }
def PillowWitnessesCardSaid : Prop := Claim7.holds Tryd.pinned (.plain (OpenSpec.ofChange pillowWitnessesSpec)) pillowWitnessesCard

/-- THE TIED CARD OF 'snowlinelaw03.PillowEnds'. -/
def pillowEndsCard : Claim7 := { stood := { row := pillowEndsRow, standIns := [], harness := (true, "a0002efd006c31436651839d86a6c7dddfc6e496a9d3301b07fd3f220070f58a"), looks := false }, kinds := [], alts := [], laidByText := true, laidKinds := [.data, .data, .data], laidTests := true, laidLooks := .later }
def PillowEndsCardSaid : Prop := Claim7.holds Tryd.pinned (.plain (OpenSpec.ofChange pillowEndsSpec)) pillowEndsCard

/-- THE SECOND FORM's CARD OF 'snowlinelaw03.PillowCases'. -/
def pillowCasesUptoCard : Claim7 := { stood := { row := pillowCasesUptoRow, standIns := [], harness := (true, "a0002efd006c31436651839d86a6c7dddfc6e496a9d3301b07fd3f220070f58a"), looks := false }, kinds := [], alts := [], laidByText := true, laidKinds := [.data, .data, .data], laidTests := true, laidLooks := .later }
def PillowCasesUptoCardSaid : Prop := Claim7.holds Tryd.pinned (.plain (OpenSpec.upto pillowCasesSpec)) pillowCasesUptoCard

/-- THE SECOND FORM's CARD OF 'snowlinelaw03.PillowPossible'. -/
def pillowPossibleUptoCard : Claim7 := { stood := { row := pillowPossibleUptoRow, standIns := [], harness := (true, "a0002efd006c31436651839d86a6c7dddfc6e496a9d3301b07fd3f220070f58a"), looks := false }, kinds := [], alts := [], laidByText := true, laidKinds := [.data, .data, .data], laidTests := true, laidLooks := .later }
def PillowPossibleUptoCardSaid : Prop := Claim7.holds Tryd.pinned (.plain (OpenSpec.upto pillowPossibleSpec)) pillowPossibleUptoCard

/-- THE SECOND FORM's CARD OF 'snowlinelaw03.PillowWider'. -/
def pillowWiderUptoCard : Claim7 := { stood := { row := pillowWiderUptoRow, standIns := [], harness := (true, "a0002efd006c31436651839d86a6c7dddfc6e496a9d3301b07fd3f220070f58a"), looks := false }, kinds := [], alts := [], laidByText := true, laidKinds := [.data, .data, .data], laidTests := true, laidLooks := .later }
def PillowWiderUptoCardSaid : Prop := Claim7.holds Tryd.pinned (.plain (OpenSpec.upto pillowWiderSpec)) pillowWiderUptoCard

/-- THE SECOND FORM's CARD OF 'snowlinelaw03.PillowRefutes'. -/
def pillowRefutesUptoCard : Claim7 := { stood := { row := pillowRefutesUptoRow, standIns := [], harness := (true, "a0002efd006c31436651839d86a6c7dddfc6e496a9d3301b07fd3f220070f58a"), looks := false }, kinds := [], alts := [], laidByText := true, laidKinds := [.data, .data, .data], laidTests := true, laidLooks := .later }
def PillowRefutesUptoCardSaid : Prop := Claim7.holds Tryd.pinned (.plain (OpenSpec.upto pillowRefutesSpec)) pillowRefutesUptoCard

/-- THE SECOND FORM's CARD OF 'snowlinelaw03.PillowPairs'. -/
def pillowPairsUptoCard : Claim7 := { stood := { row := pillowPairsUptoRow, standIns := [], harness := (true, "a0002efd006c31436651839d86a6c7dddfc6e496a9d3301b07fd3f220070f58a"), looks := false }, kinds := [], alts := [], laidByText := true, laidKinds := [.data, .data, .data], laidTests := true, laidLooks := .later }
def PillowPairsUptoCardSaid : Prop := Claim7.holds Tryd.pinned (.plain (OpenSpec.upto pillowPairsSpec)) pillowPairsUptoCard

/-- THE SECOND FORM's CARD OF 'snowlinelaw03.PillowAll'. -/
def pillowAllUptoCard : Claim7 := { stood := { row := pillowAllUptoRow, standIns := [], harness := (true, "a0002efd006c31436651839d86a6c7dddfc6e496a9d3301b07fd3f220070f58a"), looks := false }, kinds := [], alts := [], laidByText := true, laidKinds := [.data, .data, .data], laidTests := true, laidLooks := .later }
def PillowAllUptoCardSaid : Prop := Claim7.holds Tryd.pinned (.plain (OpenSpec.upto pillowAllSpec)) pillowAllUptoCard

/-- THE SECOND FORM's CARD OF 'snowlinelaw03.PillowFurther'. -/
def pillowFurtherUptoCard : Claim7 := { stood := { row := pillowFurtherUptoRow, standIns := [], harness := (true, "a0002efd006c31436651839d86a6c7dddfc6e496a9d3301b07fd3f220070f58a"), looks := false }, kinds := [], alts := [], laidByText := true, laidKinds := [.data, .data, .data], laidTests := true, laidLooks := .later }
def PillowFurtherUptoCardSaid : Prop := Claim7.holds Tryd.pinned (.plain (OpenSpec.upto pillowFurtherSpec)) pillowFurtherUptoCard

/-- THE SECOND FORM's CARD OF 'snowlinelaw03.PillowTruth'. -/
def pillowTruthUptoCard : Claim7 := { stood := { row := pillowTruthUptoRow, standIns := [], harness := (true, "a0002efd006c31436651839d86a6c7dddfc6e496a9d3301b07fd3f220070f58a"), looks := false }, kinds := [], alts := [], laidByText := true, laidKinds := [.data, .data, .data], laidTests := true, laidLooks := .later }
def PillowTruthUptoCardSaid : Prop := Claim7.holds Tryd.pinned (.plain (OpenSpec.upto pillowTruthSpec)) pillowTruthUptoCard

/-- THE SECOND FORM's CARD OF 'snowlinelaw03.PillowTree'. -/
def pillowTreeUptoCard : Claim7 := { stood := { row := pillowTreeUptoRow, standIns := [], harness := (true, "a0002efd006c31436651839d86a6c7dddfc6e496a9d3301b07fd3f220070f58a"), looks := false }, kinds := [], alts := [], laidByText := true, laidKinds := [.data, .data, .data], laidTests := true, laidLooks := .later }
def PillowTreeUptoCardSaid : Prop := Claim7.holds Tryd.pinned (.plain (OpenSpec.upto pillowTreeSpec)) pillowTreeUptoCard

/-- THE SECOND FORM's CARD OF 'snowlinelaw03.PillowChecks'. -/
def pillowChecksUptoCard : Claim7 := { stood := { row := pillowChecksUptoRow, standIns := [], harness := (true, "a0002efd006c31436651839d86a6c7dddfc6e496a9d3301b07fd3f220070f58a"), looks := false }, kinds := [], alts := [], laidByText := true, laidKinds := [.data, .data, .data], laidTests := true, laidLooks := .later }
def PillowChecksUptoCardSaid : Prop := Claim7.holds Tryd.pinned (.plain (OpenSpec.upto pillowChecksSpec)) pillowChecksUptoCard

/-- THE SECOND FORM's CARD OF 'snowlinelaw03.PillowTrees'. -/
def pillowTreesUptoCard : Claim7 := { stood := { row := pillowTreesUptoRow, standIns := [], harness := (true, "a0002efd006c31436651839d86a6c7dddfc6e496a9d3301b07fd3f220070f58a"), looks := false }, kinds := [], alts := [], laidByText := true, laidKinds := [.data, .data, .data], laidTests := true, laidLooks := .later }
def PillowTreesUptoCardSaid : Prop := Claim7.holds Tryd.pinned (.plain (OpenSpec.upto pillowTreesSpec)) pillowTreesUptoCard

/-- THE SECOND FORM's CARD OF 'snowlinelaw03.PillowWitnesses'. -/
def pillowWitnessesUptoCard : Claim7 := { stood := { row := pillowWitnessesUptoRow, standIns := [], harness := (true, "a0002efd006c31436651839d86a6c7dddfc6e496a9d3301b07fd3f220070f58a"), looks := false }, kinds := [], alts := [], laidByText := true, laidKinds := [.data, .data, .data], laidTests := true, laidLooks := .later }
def PillowWitnessesUptoCardSaid : Prop := Claim7.holds Tryd.pinned (.plain (OpenSpec.upto pillowWitnessesSpec)) pillowWitnessesUptoCard

/-- THE SECOND FORM's CARD OF 'snowlinelaw03.PillowEnds'. -/
def pillowEndsUptoCard : Claim7 := { stood := { row := pillowEndsUptoRow, standIns := [], harness := (true, "a0002efd006c31436651839d86a6c7dddfc6e496a9d3301b07fd3f220070f58a"), looks := false }, kinds := [], alts := [], laidByText := true, laidKinds := [.data, .data, .data], laidTests := true, laidLooks := .later }
def PillowEndsUptoCardSaid : Prop := Claim7.holds Tryd.pinned (.plain (OpenSpec.upto pillowEndsSpec)) pillowEndsUptoCard
end Rows
end Go.Proofs.YtaahjlhfmkjefaaDoor
