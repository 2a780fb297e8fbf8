/-
  DERIVED. GIVEN WITH THE SEED: THE CARDS: each row of YtpjclnoehlflcaaGreatDoorRows.lean that lists a variable, with what it lists TIED to the program's text (the seventh form; the later family's looks); each row that meets fmt, with fmt's text TOLD by the authors' own Lean function (tested against real Go, not proved from fmt's source: count such statements apart). THE CARD IS WHAT COUNTS. Prove the row's statement (the work); the ties are given (YtpjclnoehlflcaaGreatDoorTie.lean); close each card by the builder's one call (the guide's Derived/Test/ToyasCard.lean, 'card_holds'). Laid BY PROGRAM, IN A SANDBOX (cutbox-door.mjs). By AI agents, Wed Nov 11 2026. No macro, syntax, notation, axiom, sorry.
-/
import Derived.Test.YtpjclnoehlflcaaGreatDoorRows
import GoSem.ClaimSeven
namespace Go.Proofs.YtpjclnoehlflcaaGreatDoor
namespace Rows

/-- THE TIED CARD OF 'tellurionlaw01.TrainSettings'. -/
def trainSettingsCard : Claim7 := { stood := { row := trainSettingsRow, standIns := [], harness := (true, "4885aa33add3758c8a61098273be5fe62f50bb4f2ca1bedf929b21f44d4ac036"), looks := true }, kinds := [], alts := [], laidByText := true, laidKinds := [.data, .data, .data, .data, .pinned], laidTests := true, laidLooks := .later }
def TrainSettingsCardSaid : Prop := Claim7.holds Tryz.pinned (.plain (OpenSpec.ofChange trainSettingsSpec)) trainSettingsCard

/-- THE TIED CARD OF 'tellurionlaw01.TrainRight'. -/
def trainRightCard : Claim7 := { stood := { row := trainRightRow, standIns := [], harness := (true, "4885aa33add3758c8a61098273be5fe62f50bb4f2ca1bedf929b21f44d4ac036"), looks := true }, kinds := [], alts := [], laidByText := true, laidKinds := [.data, .data, .data, .data, .pinned], laidTests := true, laidLooks := .later }
def TrainRightCardSaid : Prop := Claim7.holds Tryz.pinned (.plain (OpenSpec.ofChange trainRightSpec)) trainRightCard

/-- THE TIED CARD OF 'tellurionlaw01.TrainFewest'. -/
def trainFewestCard : Claim7 := { stood := { row := trainFewestRow, standIns := [], harness := (true, "4885aa33add3758c8a61098273be5fe62f50bb4f2ca1bedf929b21f44d4ac036"), looks := true }, kinds := [], alts := [], laidByText := true, laidKinds := [.data, .data, .data, .data, .pinned], laidTests := true, laidLooks := .later }
def TrainFewestCardSaid : Prop := Claim7.holds Tryz.pinned (.plain (OpenSpec.ofChange trainFewestSpec)) trainFewestCard

/-- THE TIED CARD OF 'tellurionlaw01.TrainFits'. -/
def trainFitsCard : Claim7 := { stood := { row := trainFitsRow, standIns := [], harness := (true, "4885aa33add3758c8a61098273be5fe62f50bb4f2ca1bedf929b21f44d4ac036"), looks := true }, kinds := [], alts := [], laidByText := true, laidKinds := [.data, .data, .data, .data, .pinned], laidTests := true, laidLooks := .later }
def TrainFitsCardSaid : Prop := Claim7.holds Tryz.pinned (.plain (OpenSpec.ofChange trainFitsSpec)) trainFitsCard

/-- THE TIED CARD OF 'tellurionlaw01.TrainNearests'. -/
def trainNearestsCard : Claim7 := { stood := { row := trainNearestsRow, standIns := [], harness := (true, "4885aa33add3758c8a61098273be5fe62f50bb4f2ca1bedf929b21f44d4ac036"), looks := true }, kinds := [], alts := [], laidByText := true, laidKinds := [.data, .data, .data, .data, .pinned], laidTests := true, laidLooks := .later }
def TrainNearestsCardSaid : Prop := Claim7.holds Tryz.pinned (.plain (OpenSpec.ofChange trainNearestsSpec)) trainNearestsCard

/-- THE TIED CARD OF 'tellurionlaw01.TrainRivals'. -/
def trainRivalsCard : Claim7 := { stood := { row := trainRivalsRow, standIns := [], harness := (true, "4885aa33add3758c8a61098273be5fe62f50bb4f2ca1bedf929b21f44d4ac036"), looks := true }, kinds := [], alts := [], laidByText := true, laidKinds := [.data, .data, .data, .data, .pinned], laidTests := true, laidLooks := .later }
def TrainRivalsCardSaid : Prop := Claim7.holds Tryz.pinned (.plain (OpenSpec.ofChange trainRivalsSpec)) trainRivalsCard

/-- THE TIED CARD OF 'tellurionlaw01.TrainCuts'. -/
def trainCutsCard : Claim7 := { stood := { row := trainCutsRow, standIns := [], harness := (true, "4885aa33add3758c8a61098273be5fe62f50bb4f2ca1bedf929b21f44d4ac036"), looks := true }, kinds := [], alts := [], laidByText := true, laidKinds := [.data, .data, .data, .data, .pinned], laidTests := true, laidLooks := .later }
def TrainCutsCardSaid : Prop := Claim7.holds Tryz.pinned (.plain (OpenSpec.ofChange trainCutsSpec)) trainCutsCard

/-- THE TIED CARD OF 'tellurionlaw01.TrainMore'. -/
def trainMoreCard : Claim7 := { stood := { row := trainMoreRow, standIns := [], harness := (true, "4885aa33add3758c8a61098273be5fe62f50bb4f2ca1bedf929b21f44d4ac036"), looks := true }, kinds := [], alts := [], laidByText := true, laidKinds := [.data, .data, .data, .data, .pinned], laidTests := true, laidLooks := .later }
def TrainMoreCardSaid : Prop := Claim7.holds Tryz.pinned (.plain (OpenSpec.ofChange trainMoreSpec)) trainMoreCard

/-- THE TIED CARD OF 'tellurionlaw01.TrainShares'. -/
def trainSharesCard : Claim7 := { stood := { row := trainSharesRow, standIns := [], harness := (true, "4885aa33add3758c8a61098273be5fe62f50bb4f2ca1bedf929b21f44d4ac036"), looks := true }, kinds := [], alts := [], laidByText := true, laidKinds := [.data, .data, .data, .data, .pinned], laidTests := true, laidLooks := .later }
def TrainSharesCardSaid : Prop := Claim7.holds Tryz.pinned (.plain (OpenSpec.ofChange trainSharesSpec)) trainSharesCard

/-- THE TIED CARD OF 'tellurionlaw01.TrainWorst'. -/
def trainWorstCard : Claim7 := { stood := { row := trainWorstRow, standIns := [], harness := (true, "4885aa33add3758c8a61098273be5fe62f50bb4f2ca1bedf929b21f44d4ac036"), looks := true }, kinds := [], alts := [], laidByText := true, laidKinds := [.data, .data, .data, .data, .pinned], laidTests := true, laidLooks := .later }
def TrainWorstCardSaid : Prop := Claim7.holds Tryz.pinned (.plain (OpenSpec.ofChange trainWorstSpec)) trainWorstCard

/-- THE TIED CARD OF 'tellurionlaw01.TrainLess'. -/
def trainLessCard : Claim7 := { stood := { row := trainLessRow, standIns := [], harness := (true, "4885aa33add3758c8a61098273be5fe62f50bb4f2ca1bedf929b21f44d4ac036"), looks := true }, kinds := [], alts := [], laidByText := true, laidKinds := [.data, .data, .data, .data, .pinned], laidTests := true, laidLooks := .later }
def TrainLessCardSaid : Prop := Claim7.holds Tryz.pinned (.plain (OpenSpec.ofChange trainLessSpec)) trainLessCard

/-- THE SECOND FORM's CARD OF 'tellurionlaw01.TrainSettings'. -/
def trainSettingsUptoCard : Claim7 := { stood := { row := trainSettingsUptoRow, standIns := [], harness := (true, "4885aa33add3758c8a61098273be5fe62f50bb4f2ca1bedf929b21f44d4ac036"), looks := true }, kinds := [], alts := [], laidByText := true, laidKinds := [.data, .data, .data, .data, .pinned], laidTests := true, laidLooks := .later }
def TrainSettingsUptoCardSaid : Prop := Claim7.holds Tryz.pinned (.plain (OpenSpec.upto trainSettingsSpec)) trainSettingsUptoCard

/-- THE SECOND FORM's CARD OF 'tellurionlaw01.TrainRight'. -/
def trainRightUptoCard : Claim7 := { stood := { row := trainRightUptoRow, standIns := [], harness := (true, "4885aa33add3758c8a61098273be5fe62f50bb4f2ca1bedf929b21f44d4ac036"), looks := true }, kinds := [], alts := [], laidByText := true, laidKinds := [.data, .data, .data, .data, .pinned], laidTests := true, laidLooks := .later }
def TrainRightUptoCardSaid : Prop := Claim7.holds Tryz.pinned (.plain (OpenSpec.upto trainRightSpec)) trainRightUptoCard

/-- THE SECOND FORM's CARD OF 'tellurionlaw01.TrainFewest'. -/
def trainFewestUptoCard : Claim7 := { stood := { row := trainFewestUptoRow, standIns := [], harness := (true, "4885aa33add3758c8a61098273be5fe62f50bb4f2ca1bedf929b21f44d4ac036"), looks := true }, kinds := [], alts := [], laidByText := true, laidKinds := [.data, .data, .data, .data, .pinned], laidTests := true, laidLooks := .later }
def TrainFewestUptoCardSaid : Prop := Claim7.holds Tryz.pinned (.plain (OpenSpec.upto trainFewestSpec)) trainFewestUptoCard

/-- THE SECOND FORM's CARD OF 'tellurionlaw01.TrainFits'. -/
def trainFitsUptoCard : Claim7 := { stood := { row := trainFitsUptoRow, standIns := [], harness := (true, "4885aa33add3758c8a61098273be5fe62f50bb4f2ca1bedf929b21f44d4ac036"), looks := true }, kinds := [], alts := [], laidByText := true, laidKinds := [.data, .data, .data, .data, .pinned], laidTests := true, laidLooks := .later }
def TrainFitsUptoCardSaid : Prop := Claim7.holds Tryz.pinned (.plain (OpenSpec.upto trainFitsSpec)) trainFitsUptoCard

/-- THE SECOND FORM's CARD OF 'tellurionlaw01.TrainNearests'. -/
def trainNearestsUptoCard : Claim7 := { stood := { row := trainNearestsUptoRow, standIns := [], harness := (true, "4885aa33add3758c8a61098273be5fe62f50bb4f2ca1bedf929b21f44d4ac036"), looks := true }, kinds := [], alts := [], laidByText := true, laidKinds := [.data, .data, .data, .data, .pinned], laidTests := true, laidLooks := .later }
def TrainNearestsUptoCardSaid : Prop := Claim7.holds Tryz.pinned (.plain (OpenSpec.upto trainNearestsSpec)) trainNearestsUptoCard

/-- THE SECOND FORM's CARD OF 'tellurionlaw01.TrainRivals'. -/
def trainRivalsUptoCard : Claim7 := { stood := { row := trainRivalsUptoRow, standIns := [], harness := (true, "4885aa33add3758c8a61098273be5fe62f50bb4f2ca1bedf929b21f44d4ac036"), looks := true }, kinds := [], alts := [], laidByText := true, laidKinds := [.data, .data, .data, .data, .pinned], laidTests := true, laidLooks := .later }
def TrainRivalsUptoCardSaid : Prop := Claim7.holds Tryz.pinned (.plain (OpenSpec.upto trainRivalsSpec)) trainRivalsUptoCard

/-- THE SECOND FORM's CARD OF 'tellurionlaw01.TrainCuts'. -/
def trainCutsUptoCard : Claim7 := { stood := { row := trainCutsUptoRow, standIns := [], harness := (true, "4885aa33add3758c8a61098273be5fe62f50bb4f2ca1bedf929b21f44d4ac036"), looks := true }, kinds := [], alts := [], laidByText := true, laidKinds := [.data, .data, .data, .data, .pinned], laidTests := true, laidLooks := .later }
def TrainCutsUptoCardSaid : Prop := Claim7.holds Tryz.pinned (.plain (OpenSpec.upto trainCutsSpec)) trainCutsUptoCard

/-- THE SECOND FORM's CARD OF 'tellurionlaw01.TrainMore'. -/
def trainMoreUptoCard : Claim7 := { stood := { row := trainMoreUptoRow, standIns := [], harness := (true, "4885aa33add3758c8a61098273be5fe62f50bb4f2ca1bedf929b21f44d4ac036"), looks := true }, kinds := [], alts := [], laidByText := true, laidKinds := [.data, .data, .data, .data, .pinned], laidTests := true, laidLooks := .later }
def TrainMoreUptoCardSaid : Prop := Claim7.holds Tryz.pinned (.plain (OpenSpec.upto trainMoreSpec)) trainMoreUptoCard

/-- THE SECOND FORM's CARD OF 'tellurionlaw01.TrainShares'. -/
def trainSharesUptoCard : Claim7 := { stood := { row := trainSharesUptoRow, standIns := [], harness := (true, "4885aa33add3758c8a61098273be5fe62f50bb4f2ca1bedf929b21f44d4ac036"), looks := true }, kinds := [], alts := [], laidByText := true, laidKinds := [.data, .data, .data, .data, .pinned], laidTests := true, laidLooks := .later }
def TrainSharesUptoCardSaid : Prop := Claim7.holds Tryz.pinned (.plain (OpenSpec.upto trainSharesSpec)) trainSharesUptoCard

/-- THE SECOND FORM's CARD OF 'tellurionlaw01.TrainWorst'. -/
def trainWorstUptoCard : Claim7 := { stood := { row := trainWorstUptoRow, standIns := [], harness := (true, "4885aa33add3758c8a61098273be5fe62f50bb4f2ca1bedf929b21f44d4ac036"), looks := true }, kinds := [], alts := [], laidByText := true, laidKinds := [.data, .data, .data, .data, .pinned], laidTests := true, laidLooks := .later }
def TrainWorstUptoCardSaid : Prop := Claim7.holds Tryz.pinned (.plain (OpenSpec.upto trainWorstSpec)) trainWorstUptoCard

/-- THE SECOND FORM's CARD OF 'tellurionlaw01.TrainLess'. -/
def trainLessUptoCard : Claim7 := { stood := { row := trainLessUptoRow, standIns := [], harness := (true, "4885aa33add3758c8a61098273be5fe62f50bb4f2ca1bedf929b21f44d4ac036"), looks := true }, kinds := [], alts := [], laidByText := true, laidKinds := [.data, .data, .data, .data, .pinned], laidTests := true, laidLooks := .later }
def TrainLessUptoCardSaid : Prop := Claim7.holds Tryz.pinned (.plain (OpenSpec.upto trainLessSpec)) trainLessUptoCard
end Rows
end Go.Proofs.YtpjclnoehlflcaaGreatDoor
