/-
  DERIVED. GIVEN WITH THE SEED: THE CARDS: each row of YtlmadgdonalncaaGreatDoorRows.lean that lists a variable, with what it lists TIED to the program's text (the seventh form; the later family's looks); each row that meets fmt, with fmt's text TOLD by the authors' own Lean function (tested against real Go, not proved from fmt's source: count such statements apart). THE CARD IS WHAT COUNTS. Prove the row's statement (the work); the ties are given (YtlmadgdonalncaaGreatDoorTie.lean); close each card by the builder's one call (the guide's Derived/Test/ToyasCard.lean, 'card_holds'). Laid BY PROGRAM, IN A SANDBOX (cutbox-door.mjs). By AI agents, Wed Nov 11 2026. No macro, syntax, notation, axiom, sorry.
-/
import Derived.Test.YtlmadgdonalncaaGreatDoorRows
import GoSem.ClaimSeven
namespace Go.Proofs.YtlmadgdonalncaaGreatDoor
namespace Rows

/-- THE TIED CARD OF 'tellurionlaw09.ShopBalances'. -/
def shopBalancesCard : Claim7 := { stood := { row := shopBalancesRow, standIns := [], harness := (true, "60b469ea42033640b1891e3a380a631c71d43b076c90fd14a96666f986b8abc6"), looks := true }, kinds := [], alts := [], laidByText := true, laidKinds := [.data, .data, .data, .data, .pinned], laidTests := true, laidLooks := .later }
def ShopBalancesCardSaid : Prop := Claim7.holds Tryz.pinned (.plain (OpenSpec.ofChange shopBalancesSpec)) shopBalancesCard

/-- THE TIED CARD OF 'tellurionlaw09.ShopSettled'. -/
def shopSettledCard : Claim7 := { stood := { row := shopSettledRow, standIns := [], harness := (true, "60b469ea42033640b1891e3a380a631c71d43b076c90fd14a96666f986b8abc6"), looks := true }, kinds := [], alts := [], laidByText := true, laidKinds := [.data, .data, .data, .data, .pinned], laidTests := true, laidLooks := .later }
def ShopSettledCardSaid : Prop := Claim7.holds Tryz.pinned (.plain (OpenSpec.ofChange shopSettledSpec)) shopSettledCard

/-- THE TIED CARD OF 'tellurionlaw09.ShopPlans'. -/
def shopPlansCard : Claim7 := { stood := { row := shopPlansRow, standIns := [], harness := (true, "60b469ea42033640b1891e3a380a631c71d43b076c90fd14a96666f986b8abc6"), looks := true }, kinds := [], alts := [], laidByText := true, laidKinds := [.data, .data, .data, .data, .pinned], laidTests := true, laidLooks := .later }
def ShopPlansCardSaid : Prop := Claim7.holds Tryz.pinned (.plain (OpenSpec.ofChange shopPlansSpec)) shopPlansCard

/-- THE TIED CARD OF 'tellurionlaw09.ShopCheapest'. -/
def shopCheapestCard : Claim7 := { stood := { row := shopCheapestRow, standIns := [], harness := (true, "60b469ea42033640b1891e3a380a631c71d43b076c90fd14a96666f986b8abc6"), looks := true }, kinds := [], alts := [], laidByText := true, laidKinds := [.data, .data, .data, .data, .pinned], laidTests := true, laidLooks := .later }
def ShopCheapestCardSaid : Prop := Claim7.holds Tryz.pinned (.plain (OpenSpec.ofChange shopCheapestSpec)) shopCheapestCard

/-- THE TIED CARD OF 'tellurionlaw09.ShopRefuses'. -/
def shopRefusesCard : Claim7 := { stood := { row := shopRefusesRow, standIns := [], harness := (true, "60b469ea42033640b1891e3a380a631c71d43b076c90fd14a96666f986b8abc6"), looks := true }, kinds := [], alts := [], laidByText := true, laidKinds := [.data, .data, .data, .data, .pinned], laidTests := true, laidLooks := .later }
def ShopRefusesCardSaid : Prop := Claim7.holds Tryz.pinned (.plain (OpenSpec.ofChange shopRefusesSpec)) shopRefusesCard

/-- THE TIED CARD OF 'tellurionlaw09.ShopRefused'. -/
def shopRefusedCard : Claim7 := { stood := { row := shopRefusedRow, standIns := [], harness := (true, "60b469ea42033640b1891e3a380a631c71d43b076c90fd14a96666f986b8abc6"), looks := true }, kinds := [], alts := [], laidByText := true, laidKinds := [.data, .data, .data, .data, .pinned], laidTests := true, laidLooks := .later }
def ShopRefusedCardSaid : Prop := Claim7.holds Tryz.pinned (.plain (OpenSpec.ofChange shopRefusedSpec)) shopRefusedCard

/-- THE TIED CARD OF 'tellurionlaw09.ShopLess'. -/
def shopLessCard : Claim7 := { stood := { row := shopLessRow, standIns := [], harness := (true, "60b469ea42033640b1891e3a380a631c71d43b076c90fd14a96666f986b8abc6"), looks := true }, kinds := [], alts := [], laidByText := true, laidKinds := [.data, .data, .data, .data, .pinned], laidTests := true, laidLooks := .later }
def ShopLessCardSaid : Prop := Claim7.holds Tryz.pinned (.plain (OpenSpec.ofChange shopLessSpec)) shopLessCard

/-- THE TIED CARD OF 'tellurionlaw09.ShopPrints'. -/
def shopPrintsCard : Claim7 := { stood := { row := shopPrintsRow, standIns := [], harness := (true, "60b469ea42033640b1891e3a380a631c71d43b076c90fd14a96666f986b8abc6"), looks := true }, kinds := [], alts := [], laidByText := true, laidKinds := [.data, .data, .data, .data, .pinned], laidTests := true, laidLooks := .later }
def ShopPrintsCardSaid : Prop := Claim7.holds Tryz.pinned (.plain (OpenSpec.ofChange shopPrintsSpec)) shopPrintsCard

/-- THE TIED CARD OF 'tellurionlaw09.ShopReads'. -/
def shopReadsCard : Claim7 := { stood := { row := shopReadsRow, standIns := [], harness := (true, "60b469ea42033640b1891e3a380a631c71d43b076c90fd14a96666f986b8abc6"), looks := true }, kinds := [], alts := [], laidByText := true, laidKinds := [.data, .data, .data, .data, .pinned], laidTests := true, laidLooks := .later }
def ShopReadsCardSaid : Prop := Claim7.holds Tryz.pinned (.plain (OpenSpec.ofChange shopReadsSpec)) shopReadsCard

/-- THE TIED CARD OF 'tellurionlaw09.ShopSpoilt'. -/
def shopSpoiltCard : Claim7 := { stood := { row := shopSpoiltRow, standIns := [], harness := (true, "60b469ea42033640b1891e3a380a631c71d43b076c90fd14a96666f986b8abc6"), looks := true }, kinds := [], alts := [], laidByText := true, laidKinds := [.data, .data, .data, .data, .pinned], laidTests := true, laidLooks := .later }
def ShopSpoiltCardSaid : Prop := Claim7.holds Tryz.pinned (.plain (OpenSpec.ofChange shopSpoiltSpec)) shopSpoiltCard

/-- THE SECOND FORM's CARD OF 'tellurionlaw09.ShopBalances'. -/
def shopBalancesUptoCard : Claim7 := { stood := { row := shopBalancesUptoRow, standIns := [], harness := (true, "60b469ea42033640b1891e3a380a631c71d43b076c90fd14a96666f986b8abc6"), looks := true }, kinds := [], alts := [], laidByText := true, laidKinds := [.data, .data, .data, .data, .pinned], laidTests := true, laidLooks := .later }
def ShopBalancesUptoCardSaid : Prop := Claim7.holds Tryz.pinned (.plain (OpenSpec.upto shopBalancesSpec)) shopBalancesUptoCard

/-- THE SECOND FORM's CARD OF 'tellurionlaw09.ShopSettled'. -/
def shopSettledUptoCard : Claim7 := { stood := { row := shopSettledUptoRow, standIns := [], harness := (true, "60b469ea42033640b1891e3a380a631c71d43b076c90fd14a96666f986b8abc6"), looks := true }, kinds := [], alts := [], laidByText := true, laidKinds := [.data, .data, .data, .data, .pinned], laidTests := true, laidLooks := .later }
def ShopSettledUptoCardSaid : Prop := Claim7.holds Tryz.pinned (.plain (OpenSpec.upto shopSettledSpec)) shopSettledUptoCard

/-- THE SECOND FORM's CARD OF 'tellurionlaw09.ShopPlans'. -/
def shopPlansUptoCard : Claim7 := { stood := { row := shopPlansUptoRow, standIns := [], harness := (true, "60b469ea42033640b1891e3a380a631c71d43b076c90fd14a96666f986b8abc6"), looks := true }, kinds := [], alts := [], laidByText := true, laidKinds := [.data, .data, .data, .data, .pinned], laidTests := true, laidLooks := .later }
def ShopPlansUptoCardSaid : Prop := Claim7.holds Tryz.pinned (.plain (OpenSpec.upto shopPlansSpec)) shopPlansUptoCard

/-- THE SECOND FORM's CARD OF 'tellurionlaw09.ShopCheapest'. -/
def shopCheapestUptoCard : Claim7 := { stood := { row := shopCheapestUptoRow, standIns := [], harness := (true, "60b469ea42033640b1891e3a380a631c71d43b076c90fd14a96666f986b8abc6"), looks := true }, kinds := [], alts := [], laidByText := true, laidKinds := [.data, .data, .data, .data, .pinned], laidTests := true, laidLooks := .later }
def ShopCheapestUptoCardSaid : Prop := Claim7.holds Tryz.pinned (.plain (OpenSpec.upto shopCheapestSpec)) shopCheapestUptoCard

/-- THE SECOND FORM's CARD OF 'tellurionlaw09.ShopRefuses'. -/
def shopRefusesUptoCard : Claim7 := { stood := { row := shopRefusesUptoRow, standIns := [], harness := (true, "60b469ea42033640b1891e3a380a631c71d43b076c90fd14a96666f986b8abc6"), looks := true }, kinds := [], alts := [], laidByText := true, laidKinds := [.data, .data, .data, .data, .pinned], laidTests := true, laidLooks := .later }
def ShopRefusesUptoCardSaid : Prop := Claim7.holds Tryz.pinned (.plain (OpenSpec.upto shopRefusesSpec)) shopRefusesUptoCard

/-- THE SECOND FORM's CARD OF 'tellurionlaw09.ShopRefused'. -/
def shopRefusedUptoCard : Claim7 := { stood := { row := shopRefusedUptoRow, standIns := [], harness := (true, "60b469ea42033640b1891e3a380a631c71d43b076c90fd14a96666f986b8abc6"), looks := true }, kinds := [], alts := [], laidByText := true, laidKinds := [.data, .data, .data, .data, .pinned], laidTests := true, laidLooks := .later }
def ShopRefusedUptoCardSaid : Prop := Claim7.holds Tryz.pinned (.plain (OpenSpec.upto shopRefusedSpec)) shopRefusedUptoCard

/-- THE SECOND FORM's CARD OF 'tellurionlaw09.ShopLess'. -/
def shopLessUptoCard : Claim7 := { stood := { row := shopLessUptoRow, standIns := [], harness := (true, "60b469ea42033640b1891e3a380a631c71d43b076c90fd14a96666f986b8abc6"), looks := true }, kinds := [], alts := [], laidByText := true, laidKinds := [.data, .data, .data, .data, .pinned], laidTests := true, laidLooks := .later }
def ShopLessUptoCardSaid : Prop := Claim7.holds Tryz.pinned (.plain (OpenSpec.upto shopLessSpec)) shopLessUptoCard

/-- THE SECOND FORM's CARD OF 'tellurionlaw09.ShopPrints'. -/
def shopPrintsUptoCard : Claim7 := { stood := { row := shopPrintsUptoRow, standIns := [], harness := (true, "60b469ea42033640b1891e3a380a631c71d43b076c90fd14a96666f986b8abc6"), looks := true }, kinds := [], alts := [], laidByText := true, laidKinds := [.data, .data, .data, .data, .pinned], laidTests := true, laidLooks := .later }
def ShopPrintsUptoCardSaid : Prop := Claim7.holds Tryz.pinned (.plain (OpenSpec.upto shopPrintsSpec)) shopPrintsUptoCard

/-- THE SECOND FORM's CARD OF 'tellurionlaw09.ShopReads'. -/
def shopReadsUptoCard : Claim7 := { stood := { row := shopReadsUptoRow, standIns := [], harness := (true, "60b469ea42033640b1891e3a380a631c71d43b076c90fd14a96666f986b8abc6"), looks := true }, kinds := [], alts := [], laidByText := true, laidKinds := [.data, .data, .data, .data, .pinned], laidTests := true, laidLooks := .later }
def ShopReadsUptoCardSaid : Prop := Claim7.holds Tryz.pinned (.plain (OpenSpec.upto shopReadsSpec)) shopReadsUptoCard

/-- THE SECOND FORM's CARD OF 'tellurionlaw09.ShopSpoilt'. -/
def shopSpoiltUptoCard : Claim7 := { stood := { row := shopSpoiltUptoRow, standIns := [], harness := (true, "60b469ea42033640b1891e3a380a631c71d43b076c90fd14a96666f986b8abc6"), looks := true }, kinds := [], alts := [], laidByText := true, laidKinds := [.data, .data, .data, .data, .pinned], laidTests := true, laidLooks := .later }
def ShopSpoiltUptoCardSaid : Prop := Claim7.holds Tryz.pinned (.plain (OpenSpec.upto shopSpoiltSpec)) shopSpoiltUptoCard
end Rows
end Go.Proofs.YtlmadgdonalncaaGreatDoor
