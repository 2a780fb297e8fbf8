/-
  DERIVED. GIVEN WITH THE SEED: THE CARDS: each row of YtnimgfkggbnjoaaGreatDoorRows.lean that lists a variable, with what it lists TIED to the program's text (the seventh form; the later family's looks); each row that meets fmt, with fmt's text TOLD by the authors' own Lean function (tested against real Go, not proved from fmt's source: count such statements apart). THE CARD IS WHAT COUNTS. Prove the row's statement (the work); the ties are given (YtnimgfkggbnjoaaGreatDoorTie.lean); close each card by the builder's one call (the guide's Derived/Test/ToyasCard.lean, 'card_holds'). Laid BY PROGRAM, IN A SANDBOX (cutbox-door.mjs). By AI agents, Wed Nov 11 2026. No macro, syntax, notation, axiom, sorry.
-/
import Derived.Test.YtnimgfkggbnjoaaGreatDoorRows
import GoSem.ClaimSeven
namespace Go.Proofs.YtnimgfkggbnjoaaGreatDoor
namespace Rows

/-- THE TIED CARD OF 'tellurionlaw01.TrainPrints'. -/
def trainPrintsCard : Claim7 := { stood := { row := trainPrintsRow, standIns := [], harness := (true, "77bf2491d2987bb7d10a4a80eea09577dbd85ab7733cb6b1c0afbb2ab7e00066"), looks := true }, kinds := [], alts := [], laidByText := true, laidKinds := [.data, .data, .data, .data, .pinned], laidTests := true, laidLooks := .later }
def TrainPrintsCardSaid : Prop := Claim7.holds Tryz.pinned (.plain (OpenSpec.ofChange trainPrintsSpec)) trainPrintsCard

/-- THE TIED CARD OF 'tellurionlaw01.TrainReads'. -/
def trainReadsCard : Claim7 := { stood := { row := trainReadsRow, standIns := [], harness := (true, "77bf2491d2987bb7d10a4a80eea09577dbd85ab7733cb6b1c0afbb2ab7e00066"), looks := true }, kinds := [], alts := [], laidByText := true, laidKinds := [.data, .data, .data, .data, .pinned], laidTests := true, laidLooks := .later }
def TrainReadsCardSaid : Prop := Claim7.holds Tryz.pinned (.plain (OpenSpec.ofChange trainReadsSpec)) trainReadsCard

/-- THE TIED CARD OF 'tellurionlaw01.TrainSpoilt'. -/
def trainSpoiltCard : Claim7 := { stood := { row := trainSpoiltRow, standIns := [], harness := (true, "77bf2491d2987bb7d10a4a80eea09577dbd85ab7733cb6b1c0afbb2ab7e00066"), looks := true }, kinds := [], alts := [], laidByText := true, laidKinds := [.data, .data, .data, .data, .pinned], laidTests := true, laidLooks := .later }
def TrainSpoiltCardSaid : Prop := Claim7.holds Tryz.pinned (.plain (OpenSpec.ofChange trainSpoiltSpec)) trainSpoiltCard

/-- THE SECOND FORM's CARD OF 'tellurionlaw01.TrainPrints'. -/
def trainPrintsUptoCard : Claim7 := { stood := { row := trainPrintsUptoRow, standIns := [], harness := (true, "77bf2491d2987bb7d10a4a80eea09577dbd85ab7733cb6b1c0afbb2ab7e00066"), looks := true }, kinds := [], alts := [], laidByText := true, laidKinds := [.data, .data, .data, .data, .pinned], laidTests := true, laidLooks := .later }
def TrainPrintsUptoCardSaid : Prop := Claim7.holds Tryz.pinned (.plain (OpenSpec.upto trainPrintsSpec)) trainPrintsUptoCard

/-- THE SECOND FORM's CARD OF 'tellurionlaw01.TrainReads'. -/
def trainReadsUptoCard : Claim7 := { stood := { row := trainReadsUptoRow, standIns := [], harness := (true, "77bf2491d2987bb7d10a4a80eea09577dbd85ab7733cb6b1c0afbb2ab7e00066"), looks := true }, kinds := [], alts := [], laidByText := true, laidKinds := [.data, .data, .data, .data, .pinned], laidTests := true, laidLooks := .later }
def TrainReadsUptoCardSaid : Prop := Claim7.holds Tryz.pinned (.plain (OpenSpec.upto trainReadsSpec)) trainReadsUptoCard

/-- THE SECOND FORM's CARD OF 'tellurionlaw01.TrainSpoilt'. -/
def trainSpoiltUptoCard : Claim7 := { stood := { row := trainSpoiltUptoRow, standIns := [], harness := (true, "77bf2491d2987bb7d10a4a80eea09577dbd85ab7733cb6b1c0afbb2ab7e00066"), looks := true }, kinds := [], alts := [], laidByText := true, laidKinds := [.data, .data, .data, .data, .pinned], laidTests := true, laidLooks := .later }
def TrainSpoiltUptoCardSaid : Prop := Claim7.holds Tryz.pinned (.plain (OpenSpec.upto trainSpoiltSpec)) trainSpoiltUptoCard
end Rows
end Go.Proofs.YtnimgfkggbnjoaaGreatDoor
