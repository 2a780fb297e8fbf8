/-
  DERIVED. GIVEN WITH THE SEED: THE CARDS: each row of YtgojpjbbahljeaaGreatDoorRows.lean that lists a variable, with what it lists TIED to the program's text (the seventh form; the later family's looks); each row that meets fmt, with fmt's text TOLD by the authors' own Lean function (tested against real Go, not proved from fmt's source: count such statements apart). THE CARD IS WHAT COUNTS. Prove the row's statement (the work); the ties are given (YtgojpjbbahljeaaGreatDoorTie.lean); close each card by the builder's one call (the guide's Derived/Test/ToyasCard.lean, 'card_holds'). Laid BY PROGRAM, IN A SANDBOX (cutbox-door.mjs). By AI agents, Wed Nov 11 2026. No macro, syntax, notation, axiom, sorry.
-/
import Derived.Test.YtgojpjbbahljeaaGreatDoorRows
import GoSem.ClaimSeven
namespace Go.Proofs.YtgojpjbbahljeaaGreatDoor
namespace Rows

/-- THE TIED CARD OF 'tellurionlaw01.TrainBests'. -/
def trainBestsCard : Claim7 := { stood := { row := trainBestsRow, standIns := [], harness := (true, "7151dac5c426226c6d1af32e19215cfe9c04ed9f6e4014c30e8b28baad8e670c"), looks := true }, kinds := [], alts := [], laidByText := true, laidKinds := [.data, .data, .data, .data, .pinned], laidTests := true, laidLooks := .later }
def TrainBestsCardSaid : Prop := Claim7.holds Tryz.pinned (.plain (OpenSpec.ofChange trainBestsSpec)) trainBestsCard

/-- THE TIED CARD OF 'tellurionlaw01.TrainProved'. -/
def trainProvedCard : Claim7 := { stood := { row := trainProvedRow, standIns := [], harness := (true, "7151dac5c426226c6d1af32e19215cfe9c04ed9f6e4014c30e8b28baad8e670c"), looks := true }, kinds := [], alts := [], laidByText := true, laidKinds := [.data, .data, .data, .data, .pinned], laidTests := true, laidLooks := .later }
def TrainProvedCardSaid : Prop := Claim7.holds Tryz.pinned (.plain (OpenSpec.ofChange trainProvedSpec)) trainProvedCard

/-- THE TIED CARD OF 'tellurionlaw01.TrainProves'. -/
def trainProvesCard : Claim7 := { stood := { row := trainProvesRow, standIns := [], harness := (true, "7151dac5c426226c6d1af32e19215cfe9c04ed9f6e4014c30e8b28baad8e670c"), looks := true }, kinds := [], alts := [], laidByText := true, laidKinds := [.data, .data, .data, .data, .pinned], laidTests := true, laidLooks := .later }
def TrainProvesCardSaid : Prop := Claim7.holds Tryz.pinned (.plain (OpenSpec.ofChange trainProvesSpec)) trainProvesCard

/-- THE TIED CARD OF 'tellurionlaw01.TrainChains'. -/
def trainChainsCard : Claim7 := { stood := { row := trainChainsRow, standIns := [], harness := (true, "7151dac5c426226c6d1af32e19215cfe9c04ed9f6e4014c30e8b28baad8e670c"), looks := true }, kinds := [], alts := [], laidByText := true, laidKinds := [.data, .data, .data, .data, .pinned], laidTests := true, laidLooks := .later }
def TrainChainsCardSaid : Prop := Claim7.holds Tryz.pinned (.plain (OpenSpec.ofChange trainChainsSpec)) trainChainsCard

/-- THE TIED CARD OF 'tellurionlaw01.TrainFolds'. -/
def trainFoldsCard : Claim7 := { stood := { row := trainFoldsRow, standIns := [], harness := (true, "7151dac5c426226c6d1af32e19215cfe9c04ed9f6e4014c30e8b28baad8e670c"), looks := true }, kinds := [], alts := [], laidByText := true, laidKinds := [.data, .data, .data, .data, .pinned], laidTests := true, laidLooks := .later }
def TrainFoldsCardSaid : Prop := Claim7.holds Tryz.pinned (.plain (OpenSpec.ofChange trainFoldsSpec)) trainFoldsCard

/-- THE TIED CARD OF 'tellurionlaw01.TrainTurns'. -/
def trainTurnsCard : Claim7 := { stood := { row := trainTurnsRow, standIns := [], harness := (true, "7151dac5c426226c6d1af32e19215cfe9c04ed9f6e4014c30e8b28baad8e670c"), looks := true }, kinds := [], alts := [], laidByText := true, laidKinds := [.data, .data, .data, .data, .pinned], laidTests := true, laidLooks := .later }
def TrainTurnsCardSaid : Prop := Claim7.holds Tryz.pinned (.plain (OpenSpec.ofChange trainTurnsSpec)) trainTurnsCard

/-- THE TIED CARD OF 'tellurionlaw01.TrainWhole'. -/
def trainWholeCard : Claim7 := { stood := { row := trainWholeRow, standIns := [], harness := (true, "7151dac5c426226c6d1af32e19215cfe9c04ed9f6e4014c30e8b28baad8e670c"), looks := true }, kinds := [], alts := [], laidByText := true, laidKinds := [.data, .data, .data, .data, .pinned], laidTests := true, laidLooks := .later }
def TrainWholeCardSaid : Prop := Claim7.holds Tryz.pinned (.plain (OpenSpec.ofChange trainWholeSpec)) trainWholeCard

/-- THE TIED CARD OF 'tellurionlaw01.TrainNearers'. -/
def trainNearersCard : Claim7 := { stood := { row := trainNearersRow, standIns := [], harness := (true, "7151dac5c426226c6d1af32e19215cfe9c04ed9f6e4014c30e8b28baad8e670c"), looks := true }, kinds := [], alts := [], laidByText := true, laidKinds := [.data, .data, .data, .data, .pinned], laidTests := true, laidLooks := .later }
def TrainNearersCardSaid : Prop := Claim7.holds Tryz.pinned (.plain (OpenSpec.ofChange trainNearersSpec)) trainNearersCard

/-- THE TIED CARD OF 'tellurionlaw01.TrainOffs'. -/
def trainOffsCard : Claim7 := { stood := { row := trainOffsRow, standIns := [], harness := (true, "7151dac5c426226c6d1af32e19215cfe9c04ed9f6e4014c30e8b28baad8e670c"), looks := true }, kinds := [], alts := [], laidByText := true, laidKinds := [.data, .data, .data, .data, .pinned], laidTests := true, laidLooks := .later }
def TrainOffsCardSaid : Prop := Claim7.holds Tryz.pinned (.plain (OpenSpec.ofChange trainOffsSpec)) trainOffsCard

/-- THE TIED CARD OF 'tellurionlaw01.TrainBetweens'. -/
def trainBetweensCard : Claim7 := { stood := { row := trainBetweensRow, standIns := [], harness := (true, "7151dac5c426226c6d1af32e19215cfe9c04ed9f6e4014c30e8b28baad8e670c"), looks := true }, kinds := [], alts := [], laidByText := true, laidKinds := [.data, .data, .data, .data, .pinned], laidTests := true, laidLooks := .later }
def TrainBetweensCardSaid : Prop := Claim7.holds Tryz.pinned (.plain (OpenSpec.ofChange trainBetweensSpec)) trainBetweensCard

/-- THE TIED CARD OF 'tellurionlaw01.TrainTrue'. -/
def trainTrueCard : Claim7 := { stood := { row := trainTrueRow, standIns := [], harness := (true, "7151dac5c426226c6d1af32e19215cfe9c04ed9f6e4014c30e8b28baad8e670c"), looks := true }, kinds := [], alts := [], laidByText := true, laidKinds := [.data, .data, .data, .data, .pinned], laidTests := true, laidLooks := .later }
def TrainTrueCardSaid : Prop := Claim7.holds Tryz.pinned (.plain (OpenSpec.ofChange trainTrueSpec)) trainTrueCard

/-- THE TIED CARD OF 'tellurionlaw01.TrainKeeps'. -/
def trainKeepsCard : Claim7 := { stood := { row := trainKeepsRow, standIns := [], harness := (true, "7151dac5c426226c6d1af32e19215cfe9c04ed9f6e4014c30e8b28baad8e670c"), looks := true }, kinds := [], alts := [], laidByText := true, laidKinds := [.data, .data, .data, .data, .pinned], laidTests := true, laidLooks := .later }
def TrainKeepsCardSaid : Prop := Claim7.holds Tryz.pinned (.plain (OpenSpec.ofChange trainKeepsSpec)) trainKeepsCard

/-- THE SECOND FORM's CARD OF 'tellurionlaw01.TrainBests'. -/
def trainBestsUptoCard : Claim7 := { stood := { row := trainBestsUptoRow, standIns := [], harness := (true, "7151dac5c426226c6d1af32e19215cfe9c04ed9f6e4014c30e8b28baad8e670c"), looks := true }, kinds := [], alts := [], laidByText := true, laidKinds := [.data, .data, .data, .data, .pinned], laidTests := true, laidLooks := .later }
def TrainBestsUptoCardSaid : Prop := Claim7.holds Tryz.pinned (.plain (OpenSpec.upto trainBestsSpec)) trainBestsUptoCard

/-- THE SECOND FORM's CARD OF 'tellurionlaw01.TrainProved'. -/
def trainProvedUptoCard : Claim7 := { stood := { row := trainProvedUptoRow, standIns := [], harness := (true, "7151dac5c426226c6d1af32e19215cfe9c04ed9f6e4014c30e8b28baad8e670c"), looks := true }, kinds := [], alts := [], laidByText := true, laidKinds := [.data, .data, .data, .data, .pinned], laidTests := true, laidLooks := .later }
def TrainProvedUptoCardSaid : Prop := Claim7.holds Tryz.pinned (.plain (OpenSpec.upto trainProvedSpec)) trainProvedUptoCard

/-- THE SECOND FORM's CARD OF 'tellurionlaw01.TrainProves'. -/
def trainProvesUptoCard : Claim7 := { stood := { row := trainProvesUptoRow, standIns := [], harness := (true, "7151dac5c426226c6d1af32e19215cfe9c04ed9f6e4014c30e8b28baad8e670c"), looks := true }, kinds := [], alts := [], laidByText := true, laidKinds := [.data, .data, .data, .data, .pinned], laidTests := true, laidLooks := .later }
def TrainProvesUptoCardSaid : Prop := Claim7.holds Tryz.pinned (.plain (OpenSpec.upto trainProvesSpec)) trainProvesUptoCard

/-- THE SECOND FORM's CARD OF 'tellurionlaw01.TrainChains'. -/
def trainChainsUptoCard : Claim7 := { stood := { row := trainChainsUptoRow, standIns := [], harness := (true, "7151dac5c426226c6d1af32e19215cfe9c04ed9f6e4014c30e8b28baad8e670c"), looks := true }, kinds := [], alts := [], laidByText := true, laidKinds := [.data, .data, .data, .data, .pinned], laidTests := true, laidLooks := .later }
def TrainChainsUptoCardSaid : Prop := Claim7.holds Tryz.pinned (.plain (OpenSpec.upto trainChainsSpec)) trainChainsUptoCard

/-- THE SECOND FORM's CARD OF 'tellurionlaw01.TrainFolds'. -/
def trainFoldsUptoCard : Claim7 := { stood := { row := trainFoldsUptoRow, standIns := [], harness := (true, "7151dac5c426226c6d1af32e19215cfe9c04ed9f6e4014c30e8b28baad8e670c"), looks := true }, kinds := [], alts := [], laidByText := true, laidKinds := [.data, .data, .data, .data, .pinned], laidTests := true, laidLooks := .later }
def TrainFoldsUptoCardSaid : Prop := Claim7.holds Tryz.pinned (.plain (OpenSpec.upto trainFoldsSpec)) trainFoldsUptoCard

/-- THE SECOND FORM's CARD OF 'tellurionlaw01.TrainTurns'. -/
def trainTurnsUptoCard : Claim7 := { stood := { row := trainTurnsUptoRow, standIns := [], harness := (true, "7151dac5c426226c6d1af32e19215cfe9c04ed9f6e4014c30e8b28baad8e670c"), looks := true }, kinds := [], alts := [], laidByText := true, laidKinds := [.data, .data, .data, .data, .pinned], laidTests := true, laidLooks := .later }
def TrainTurnsUptoCardSaid : Prop := Claim7.holds Tryz.pinned (.plain (OpenSpec.upto trainTurnsSpec)) trainTurnsUptoCard

/-- THE SECOND FORM's CARD OF 'tellurionlaw01.TrainWhole'. -/
def trainWholeUptoCard : Claim7 := { stood := { row := trainWholeUptoRow, standIns := [], harness := (true, "7151dac5c426226c6d1af32e19215cfe9c04ed9f6e4014c30e8b28baad8e670c"), looks := true }, kinds := [], alts := [], laidByText := true, laidKinds := [.data, .data, .data, .data, .pinned], laidTests := true, laidLooks := .later }
def TrainWholeUptoCardSaid : Prop := Claim7.holds Tryz.pinned (.plain (OpenSpec.upto trainWholeSpec)) trainWholeUptoCard

/-- THE SECOND FORM's CARD OF 'tellurionlaw01.TrainNearers'. -/
def trainNearersUptoCard : Claim7 := { stood := { row := trainNearersUptoRow, standIns := [], harness := (true, "7151dac5c426226c6d1af32e19215cfe9c04ed9f6e4014c30e8b28baad8e670c"), looks := true }, kinds := [], alts := [], laidByText := true, laidKinds := [.data, .data, .data, .data, .pinned], laidTests := true, laidLooks := .later }
def TrainNearersUptoCardSaid : Prop := Claim7.holds Tryz.pinned (.plain (OpenSpec.upto trainNearersSpec)) trainNearersUptoCard

/-- THE SECOND FORM's CARD OF 'tellurionlaw01.TrainOffs'. -/
def trainOffsUptoCard : Claim7 := { stood := { row := trainOffsUptoRow, standIns := [], harness := (true, "7151dac5c426226c6d1af32e19215cfe9c04ed9f6e4014c30e8b28baad8e670c"), looks := true }, kinds := [], alts := [], laidByText := true, laidKinds := [.data, .data, .data, .data, .pinned], laidTests := true, laidLooks := .later }
def TrainOffsUptoCardSaid : Prop := Claim7.holds Tryz.pinned (.plain (OpenSpec.upto trainOffsSpec)) trainOffsUptoCard

/-- THE SECOND FORM's CARD OF 'tellurionlaw01.TrainBetweens'. -/
def trainBetweensUptoCard : Claim7 := { stood := { row := trainBetweensUptoRow, standIns := [], harness := (true, "7151dac5c426226c6d1af32e19215cfe9c04ed9f6e4014c30e8b28baad8e670c"), looks := true }, kinds := [], alts := [], laidByText := true, laidKinds := [.data, .data, .data, .data, .pinned], laidTests := true, laidLooks := .later }
def TrainBetweensUptoCardSaid : Prop := Claim7.holds Tryz.pinned (.plain (OpenSpec.upto trainBetweensSpec)) trainBetweensUptoCard

/-- THE SECOND FORM's CARD OF 'tellurionlaw01.TrainTrue'. -/
def trainTrueUptoCard : Claim7 := { stood := { row := trainTrueUptoRow, standIns := [], harness := (true, "7151dac5c426226c6d1af32e19215cfe9c04ed9f6e4014c30e8b28baad8e670c"), looks := true }, kinds := [], alts := [], laidByText := true, laidKinds := [.data, .data, .data, .data, .pinned], laidTests := true, laidLooks := .later }
def TrainTrueUptoCardSaid : Prop := Claim7.holds Tryz.pinned (.plain (OpenSpec.upto trainTrueSpec)) trainTrueUptoCard

/-- THE SECOND FORM's CARD OF 'tellurionlaw01.TrainKeeps'. -/
def trainKeepsUptoCard : Claim7 := { stood := { row := trainKeepsUptoRow, standIns := [], harness := (true, "7151dac5c426226c6d1af32e19215cfe9c04ed9f6e4014c30e8b28baad8e670c"), looks := true }, kinds := [], alts := [], laidByText := true, laidKinds := [.data, .data, .data, .data, .pinned], laidTests := true, laidLooks := .later }
def TrainKeepsUptoCardSaid : Prop := Claim7.holds Tryz.pinned (.plain (OpenSpec.upto trainKeepsSpec)) trainKeepsUptoCard
end Rows
end Go.Proofs.YtgojpjbbahljeaaGreatDoor
