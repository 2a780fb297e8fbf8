/-
  DERIVED. GIVEN WITH THE SEED: THE CARDS: each row of YtikikanopganaaaGreatDoorRows.lean that lists a variable, with what it lists TIED to the program's text (the seventh form; the later family's looks); each row that meets fmt, with fmt's text TOLD by the authors' own Lean function (tested against real Go, not proved from fmt's source: count such statements apart). THE CARD IS WHAT COUNTS. Prove the row's statement (the work); the ties are given (YtikikanopganaaaGreatDoorTie.lean); close each card by the builder's one call (the guide's Derived/Test/ToyasCard.lean, 'card_holds'). Laid BY PROGRAM, IN A SANDBOX (cutbox-door.mjs). By AI agents, Wed Nov 11 2026. No macro, syntax, notation, axiom, sorry.
-/
import Derived.Test.YtikikanopganaaaGreatDoorRows
import GoSem.ClaimSeven
namespace Go.Proofs.YtikikanopganaaaGreatDoor
namespace Rows

/-- THE TIED CARD OF 'tellurionlaw09.ShopBills'. -/
def shopBillsCard : Claim7 := { stood := { row := shopBillsRow, standIns := [], harness := (true, "c0b59ad1ed21faea454f67e1167a6a8e291c40d078e953466ad8692d44a4c4ce"), looks := true }, kinds := [], alts := [], laidByText := true, laidKinds := [.data, .data, .data, .data, .pinned], laidTests := true, laidLooks := .later }
def ShopBillsCardSaid : Prop := Claim7.holds Tryz.pinned (.plain (OpenSpec.ofChange shopBillsSpec)) shopBillsCard

/-- THE TIED CARD OF 'tellurionlaw09.ShopRates'. -/
def shopRatesCard : Claim7 := { stood := { row := shopRatesRow, standIns := [], harness := (true, "c0b59ad1ed21faea454f67e1167a6a8e291c40d078e953466ad8692d44a4c4ce"), looks := true }, kinds := [], alts := [], laidByText := true, laidKinds := [.data, .data, .data, .data, .pinned], laidTests := true, laidLooks := .later }
def ShopRatesCardSaid : Prop := Claim7.holds Tryz.pinned (.plain (OpenSpec.ofChange shopRatesSpec)) shopRatesCard

/-- THE TIED CARD OF 'tellurionlaw09.ShopTrains'. -/
def shopTrainsCard : Claim7 := { stood := { row := shopTrainsRow, standIns := [], harness := (true, "c0b59ad1ed21faea454f67e1167a6a8e291c40d078e953466ad8692d44a4c4ce"), looks := true }, kinds := [], alts := [], laidByText := true, laidKinds := [.data, .data, .data, .data, .pinned], laidTests := true, laidLooks := .later }
def ShopTrainsCardSaid : Prop := Claim7.holds Tryz.pinned (.plain (OpenSpec.ofChange shopTrainsSpec)) shopTrainsCard

/-- THE TIED CARD OF 'tellurionlaw09.ShopSpoils'. -/
def shopSpoilsCard : Claim7 := { stood := { row := shopSpoilsRow, standIns := [], harness := (true, "c0b59ad1ed21faea454f67e1167a6a8e291c40d078e953466ad8692d44a4c4ce"), looks := true }, kinds := [], alts := [], laidByText := true, laidKinds := [.data, .data, .data, .data, .pinned], laidTests := true, laidLooks := .later }
def ShopSpoilsCardSaid : Prop := Claim7.holds Tryz.pinned (.plain (OpenSpec.ofChange shopSpoilsSpec)) shopSpoilsCard

/-- THE TIED CARD OF 'tellurionlaw09.ShopAdds'. -/
def shopAddsCard : Claim7 := { stood := { row := shopAddsRow, standIns := [], harness := (true, "c0b59ad1ed21faea454f67e1167a6a8e291c40d078e953466ad8692d44a4c4ce"), looks := true }, kinds := [], alts := [], laidByText := true, laidKinds := [.data, .data, .data, .data, .pinned], laidTests := true, laidLooks := .later }
def ShopAddsCardSaid : Prop := Claim7.holds Tryz.pinned (.plain (OpenSpec.ofChange shopAddsSpec)) shopAddsCard

/-- THE TIED CARD OF 'tellurionlaw09.ShopNewer'. -/
def shopNewerCard : Claim7 := { stood := { row := shopNewerRow, standIns := [], harness := (true, "c0b59ad1ed21faea454f67e1167a6a8e291c40d078e953466ad8692d44a4c4ce"), looks := true }, kinds := [], alts := [], laidByText := true, laidKinds := [.data, .data, .data, .data, .pinned], laidTests := true, laidLooks := .later }
def ShopNewerCardSaid : Prop := Claim7.holds Tryz.pinned (.plain (OpenSpec.ofChange shopNewerSpec)) shopNewerCard

/-- THE TIED CARD OF 'tellurionlaw09.ShopChanges'. -/
def shopChangesCard : Claim7 := { stood := { row := shopChangesRow, standIns := [], harness := (true, "c0b59ad1ed21faea454f67e1167a6a8e291c40d078e953466ad8692d44a4c4ce"), looks := true }, kinds := [], alts := [], laidByText := true, laidKinds := [.data, .data, .data, .data, .pinned], laidTests := true, laidLooks := .later }
def ShopChangesCardSaid : Prop := Claim7.holds Tryz.pinned (.plain (OpenSpec.ofChange shopChangesSpec)) shopChangesCard

/-- THE TIED CARD OF 'tellurionlaw09.ShopSuits'. -/
def shopSuitsCard : Claim7 := { stood := { row := shopSuitsRow, standIns := [], harness := (true, "c0b59ad1ed21faea454f67e1167a6a8e291c40d078e953466ad8692d44a4c4ce"), looks := true }, kinds := [], alts := [], laidByText := true, laidKinds := [.data, .data, .data, .data, .pinned], laidTests := true, laidLooks := .later }
def ShopSuitsCardSaid : Prop := Claim7.holds Tryz.pinned (.plain (OpenSpec.ofChange shopSuitsSpec)) shopSuitsCard

/-- THE TIED CARD OF 'tellurionlaw09.ShopMore'. -/
def shopMoreCard : Claim7 := { stood := { row := shopMoreRow, standIns := [], harness := (true, "c0b59ad1ed21faea454f67e1167a6a8e291c40d078e953466ad8692d44a4c4ce"), looks := true }, kinds := [], alts := [], laidByText := true, laidKinds := [.data, .data, .data, .data, .pinned], laidTests := true, laidLooks := .later }
def ShopMoreCardSaid : Prop := Claim7.holds Tryz.pinned (.plain (OpenSpec.ofChange shopMoreSpec)) shopMoreCard

/-- THE TIED CARD OF 'tellurionlaw09.ShopSheets'. -/
def shopSheetsCard : Claim7 := { stood := { row := shopSheetsRow, standIns := [], harness := (true, "c0b59ad1ed21faea454f67e1167a6a8e291c40d078e953466ad8692d44a4c4ce"), looks := true }, kinds := [], alts := [], laidByText := true, laidKinds := [.data, .data, .data, .data, .pinned], laidTests := true, laidLooks := .later }
def ShopSheetsCardSaid : Prop := Claim7.holds Tryz.pinned (.plain (OpenSpec.ofChange shopSheetsSpec)) shopSheetsCard

/-- THE TIED CARD OF 'tellurionlaw09.ShopFewest'. -/
def shopFewestCard : Claim7 := { stood := { row := shopFewestRow, standIns := [], harness := (true, "c0b59ad1ed21faea454f67e1167a6a8e291c40d078e953466ad8692d44a4c4ce"), looks := true }, kinds := [], alts := [], laidByText := true, laidKinds := [.data, .data, .data, .data, .pinned], laidTests := true, laidLooks := .later }
def ShopFewestCardSaid : Prop := Claim7.holds Tryz.pinned (.plain (OpenSpec.ofChange shopFewestSpec)) shopFewestCard

/-- THE SECOND FORM's CARD OF 'tellurionlaw09.ShopBills'. -/
def shopBillsUptoCard : Claim7 := { stood := { row := shopBillsUptoRow, standIns := [], harness := (true, "c0b59ad1ed21faea454f67e1167a6a8e291c40d078e953466ad8692d44a4c4ce"), looks := true }, kinds := [], alts := [], laidByText := true, laidKinds := [.data, .data, .data, .data, .pinned], laidTests := true, laidLooks := .later }
def ShopBillsUptoCardSaid : Prop := Claim7.holds Tryz.pinned (.plain (OpenSpec.upto shopBillsSpec)) shopBillsUptoCard

/-- THE SECOND FORM's CARD OF 'tellurionlaw09.ShopRates'. -/
def shopRatesUptoCard : Claim7 := { stood := { row := shopRatesUptoRow, standIns := [], harness := (true, "c0b59ad1ed21faea454f67e1167a6a8e291c40d078e953466ad8692d44a4c4ce"), looks := true }, kinds := [], alts := [], laidByText := true, laidKinds := [.data, .data, .data, .data, .pinned], laidTests := true, laidLooks := .later }
def ShopRatesUptoCardSaid : Prop := Claim7.holds Tryz.pinned (.plain (OpenSpec.upto shopRatesSpec)) shopRatesUptoCard

/-- THE SECOND FORM's CARD OF 'tellurionlaw09.ShopTrains'. -/
def shopTrainsUptoCard : Claim7 := { stood := { row := shopTrainsUptoRow, standIns := [], harness := (true, "c0b59ad1ed21faea454f67e1167a6a8e291c40d078e953466ad8692d44a4c4ce"), looks := true }, kinds := [], alts := [], laidByText := true, laidKinds := [.data, .data, .data, .data, .pinned], laidTests := true, laidLooks := .later }
def ShopTrainsUptoCardSaid : Prop := Claim7.holds Tryz.pinned (.plain (OpenSpec.upto shopTrainsSpec)) shopTrainsUptoCard

/-- THE SECOND FORM's CARD OF 'tellurionlaw09.ShopSpoils'. -/
def shopSpoilsUptoCard : Claim7 := { stood := { row := shopSpoilsUptoRow, standIns := [], harness := (true, "c0b59ad1ed21faea454f67e1167a6a8e291c40d078e953466ad8692d44a4c4ce"), looks := true }, kinds := [], alts := [], laidByText := true, laidKinds := [.data, .data, .data, .data, .pinned], laidTests := true, laidLooks := .later }
def ShopSpoilsUptoCardSaid : Prop := Claim7.holds Tryz.pinned (.plain (OpenSpec.upto shopSpoilsSpec)) shopSpoilsUptoCard

/-- THE SECOND FORM's CARD OF 'tellurionlaw09.ShopAdds'. -/
def shopAddsUptoCard : Claim7 := { stood := { row := shopAddsUptoRow, standIns := [], harness := (true, "c0b59ad1ed21faea454f67e1167a6a8e291c40d078e953466ad8692d44a4c4ce"), looks := true }, kinds := [], alts := [], laidByText := true, laidKinds := [.data, .data, .data, .data, .pinned], laidTests := true, laidLooks := .later }
def ShopAddsUptoCardSaid : Prop := Claim7.holds Tryz.pinned (.plain (OpenSpec.upto shopAddsSpec)) shopAddsUptoCard

/-- THE SECOND FORM's CARD OF 'tellurionlaw09.ShopNewer'. -/
def shopNewerUptoCard : Claim7 := { stood := { row := shopNewerUptoRow, standIns := [], harness := (true, "c0b59ad1ed21faea454f67e1167a6a8e291c40d078e953466ad8692d44a4c4ce"), looks := true }, kinds := [], alts := [], laidByText := true, laidKinds := [.data, .data, .data, .data, .pinned], laidTests := true, laidLooks := .later }
def ShopNewerUptoCardSaid : Prop := Claim7.holds Tryz.pinned (.plain (OpenSpec.upto shopNewerSpec)) shopNewerUptoCard

/-- THE SECOND FORM's CARD OF 'tellurionlaw09.ShopChanges'. -/
def shopChangesUptoCard : Claim7 := { stood := { row := shopChangesUptoRow, standIns := [], harness := (true, "c0b59ad1ed21faea454f67e1167a6a8e291c40d078e953466ad8692d44a4c4ce"), looks := true }, kinds := [], alts := [], laidByText := true, laidKinds := [.data, .data, .data, .data, .pinned], laidTests := true, laidLooks := .later }
def ShopChangesUptoCardSaid : Prop := Claim7.holds Tryz.pinned (.plain (OpenSpec.upto shopChangesSpec)) shopChangesUptoCard

/-- THE SECOND FORM's CARD OF 'tellurionlaw09.ShopSuits'. -/
def shopSuitsUptoCard : Claim7 := { stood := { row := shopSuitsUptoRow, standIns := [], harness := (true, "c0b59ad1ed21faea454f67e1167a6a8e291c40d078e953466ad8692d44a4c4ce"), looks := true }, kinds := [], alts := [], laidByText := true, laidKinds := [.data, .data, .data, .data, .pinned], laidTests := true, laidLooks := .later }
def ShopSuitsUptoCardSaid : Prop := Claim7.holds Tryz.pinned (.plain (OpenSpec.upto shopSuitsSpec)) shopSuitsUptoCard

/-- THE SECOND FORM's CARD OF 'tellurionlaw09.ShopMore'. -/
def shopMoreUptoCard : Claim7 := { stood := { row := shopMoreUptoRow, standIns := [], harness := (true, "c0b59ad1ed21faea454f67e1167a6a8e291c40d078e953466ad8692d44a4c4ce"), looks := true }, kinds := [], alts := [], laidByText := true, laidKinds := [.data, .data, .data, .data, .pinned], laidTests := true, laidLooks := .later }
def ShopMoreUptoCardSaid : Prop := Claim7.holds Tryz.pinned (.plain (OpenSpec.upto shopMoreSpec)) shopMoreUptoCard

/-- THE SECOND FORM's CARD OF 'tellurionlaw09.ShopSheets'. -/
def shopSheetsUptoCard : Claim7 := { stood := { row := shopSheetsUptoRow, standIns := [], harness := (true, "c0b59ad1ed21faea454f67e1167a6a8e291c40d078e953466ad8692d44a4c4ce"), looks := true }, kinds := [], alts := [], laidByText := true, laidKinds := [.data, .data, .data, .data, .pinned], laidTests := true, laidLooks := .later }
def ShopSheetsUptoCardSaid : Prop := Claim7.holds Tryz.pinned (.plain (OpenSpec.upto shopSheetsSpec)) shopSheetsUptoCard

/-- THE SECOND FORM's CARD OF 'tellurionlaw09.ShopFewest'. -/
def shopFewestUptoCard : Claim7 := { stood := { row := shopFewestUptoRow, standIns := [], harness := (true, "c0b59ad1ed21faea454f67e1167a6a8e291c40d078e953466ad8692d44a4c4ce"), looks := true }, kinds := [], alts := [], laidByText := true, laidKinds := [.data, .data, .data, .data, .pinned], laidTests := true, laidLooks := .later }
def ShopFewestUptoCardSaid : Prop := Claim7.holds Tryz.pinned (.plain (OpenSpec.upto shopFewestSpec)) shopFewestUptoCard
end Rows
end Go.Proofs.YtikikanopganaaaGreatDoor
