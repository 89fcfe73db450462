/-
  DERIVED. GIVEN WITH THE SEED: THE CARDS: each row of YthppjaoicibeiaaGreatDoorRows.lean that lists a variable, with what it lists TIED to the program's text (the seventh form; the later family's looks); each row that meets fmt, with fmt's text TOLD by the authors' own Lean function (tested against real Go, not proved from fmt's source: count such statements apart). THE CARD IS WHAT COUNTS. Prove the row's statement (the work); the ties are given (YthppjaoicibeiaaGreatDoorTie.lean); close each card by the builder's one call (the guide's Derived/Test/ToyasCard.lean, 'card_holds'). Laid BY PROGRAM, IN A SANDBOX (cutbox-door.mjs). By AI agents, Wed Nov 11 2026. No macro, syntax, notation, axiom, sorry.
-/
import Derived.Test.YthppjaoicibeiaaGreatDoorRows
import GoSem.ClaimSeven
namespace Go.Proofs.YthppjaoicibeiaaGreatDoor
namespace Rows

/-- THE TIED CARD OF 'outriderlaw09.ConfigFinds'. -/
def configFindsCard : Claim7 := { stood := { row := configFindsRow, standIns := [], harness := (true, "0d30fd6aef7c085072cac16e63fc9271bdbdd7bdd8cec47edc5997bbaee61bc7"), looks := true }, kinds := [], alts := [], laidByText := true, laidKinds := [.data, .data, .data, .data, .sentinel, .sentinel, .pinned], laidTests := true, laidLooks := .later }
def ConfigFindsCardSaid : Prop := Claim7.holds Tryz.pinned (.plain (OpenSpec.ofChange configFindsSpec)) configFindsCard

/-- THE TIED CARD OF 'outriderlaw10.ValidFaults'. -/
def validFaultsCard : Claim7 := { stood := { row := validFaultsRow, standIns := [], harness := (true, "0d30fd6aef7c085072cac16e63fc9271bdbdd7bdd8cec47edc5997bbaee61bc7"), looks := true }, kinds := [], alts := [], laidByText := true, laidKinds := [.data, .data, .data, .data, .sentinel, .sentinel, .pinned], laidTests := true, laidLooks := .later }
def ValidFaultsCardSaid : Prop := Claim7.holds Tryz.pinned (.plain (OpenSpec.ofChange validFaultsSpec)) validFaultsCard

/-- THE TIED CARD OF 'outriderlaw10.ValidDrops'. -/
def validDropsCard : Claim7 := { stood := { row := validDropsRow, standIns := [], harness := (true, "0d30fd6aef7c085072cac16e63fc9271bdbdd7bdd8cec47edc5997bbaee61bc7"), looks := true }, kinds := [], alts := [], laidByText := true, laidKinds := [.data, .data, .data, .data, .sentinel, .sentinel, .pinned], laidTests := true, laidLooks := .later }
def ValidDropsCardSaid : Prop := Claim7.holds Tryz.pinned (.plain (OpenSpec.ofChange validDropsSpec)) validDropsCard

/-- THE TIED CARD OF 'outriderlaw11.FingerPrints'. -/
def fingerPrintsCard : Claim7 := { stood := { row := fingerPrintsRow, standIns := [], harness := (true, "0d30fd6aef7c085072cac16e63fc9271bdbdd7bdd8cec47edc5997bbaee61bc7"), looks := true }, kinds := [], alts := [], laidByText := true, laidKinds := [.data, .data, .data, .data, .sentinel, .sentinel, .pinned], laidTests := true, laidLooks := .later }
def FingerPrintsCardSaid : Prop := Claim7.holds Tryz.pinned (.plain (OpenSpec.ofChange fingerPrintsSpec)) fingerPrintsCard

/-- THE TIED CARD OF 'outriderlaw11.FingerTexts'. -/
def fingerTextsCard : Claim7 := { stood := { row := fingerTextsRow, standIns := [], harness := (true, "0d30fd6aef7c085072cac16e63fc9271bdbdd7bdd8cec47edc5997bbaee61bc7"), looks := true }, kinds := [], alts := [], laidByText := true, laidKinds := [.data, .data, .data, .data, .sentinel, .sentinel, .pinned], laidTests := true, laidLooks := .later }
def FingerTextsCardSaid : Prop := Claim7.holds Tryz.pinned (.plain (OpenSpec.ofChange fingerTextsSpec)) fingerTextsCard

/-- THE SECOND FORM's CARD OF 'outriderlaw09.ConfigFinds'. -/
def configFindsUptoCard : Claim7 := { stood := { row := configFindsUptoRow, standIns := [], harness := (true, "0d30fd6aef7c085072cac16e63fc9271bdbdd7bdd8cec47edc5997bbaee61bc7"), looks := true }, kinds := [], alts := [], laidByText := true, laidKinds := [.data, .data, .data, .data, .sentinel, .sentinel, .pinned], laidTests := true, laidLooks := .later }
def ConfigFindsUptoCardSaid : Prop := Claim7.holds Tryz.pinned (.plain (OpenSpec.upto configFindsSpec)) configFindsUptoCard

/-- THE SECOND FORM's CARD OF 'outriderlaw10.ValidFaults'. -/
def validFaultsUptoCard : Claim7 := { stood := { row := validFaultsUptoRow, standIns := [], harness := (true, "0d30fd6aef7c085072cac16e63fc9271bdbdd7bdd8cec47edc5997bbaee61bc7"), looks := true }, kinds := [], alts := [], laidByText := true, laidKinds := [.data, .data, .data, .data, .sentinel, .sentinel, .pinned], laidTests := true, laidLooks := .later }
def ValidFaultsUptoCardSaid : Prop := Claim7.holds Tryz.pinned (.plain (OpenSpec.upto validFaultsSpec)) validFaultsUptoCard

/-- THE SECOND FORM's CARD OF 'outriderlaw10.ValidDrops'. -/
def validDropsUptoCard : Claim7 := { stood := { row := validDropsUptoRow, standIns := [], harness := (true, "0d30fd6aef7c085072cac16e63fc9271bdbdd7bdd8cec47edc5997bbaee61bc7"), looks := true }, kinds := [], alts := [], laidByText := true, laidKinds := [.data, .data, .data, .data, .sentinel, .sentinel, .pinned], laidTests := true, laidLooks := .later }
def ValidDropsUptoCardSaid : Prop := Claim7.holds Tryz.pinned (.plain (OpenSpec.upto validDropsSpec)) validDropsUptoCard

/-- THE SECOND FORM's CARD OF 'outriderlaw11.FingerPrints'. -/
def fingerPrintsUptoCard : Claim7 := { stood := { row := fingerPrintsUptoRow, standIns := [], harness := (true, "0d30fd6aef7c085072cac16e63fc9271bdbdd7bdd8cec47edc5997bbaee61bc7"), looks := true }, kinds := [], alts := [], laidByText := true, laidKinds := [.data, .data, .data, .data, .sentinel, .sentinel, .pinned], laidTests := true, laidLooks := .later }
def FingerPrintsUptoCardSaid : Prop := Claim7.holds Tryz.pinned (.plain (OpenSpec.upto fingerPrintsSpec)) fingerPrintsUptoCard

/-- THE SECOND FORM's CARD OF 'outriderlaw11.FingerTexts'. -/
def fingerTextsUptoCard : Claim7 := { stood := { row := fingerTextsUptoRow, standIns := [], harness := (true, "0d30fd6aef7c085072cac16e63fc9271bdbdd7bdd8cec47edc5997bbaee61bc7"), looks := true }, kinds := [], alts := [], laidByText := true, laidKinds := [.data, .data, .data, .data, .sentinel, .sentinel, .pinned], laidTests := true, laidLooks := .later }
def FingerTextsUptoCardSaid : Prop := Claim7.holds Tryz.pinned (.plain (OpenSpec.upto fingerTextsSpec)) fingerTextsUptoCard
end Rows
end Go.Proofs.YthppjaoicibeiaaGreatDoor
