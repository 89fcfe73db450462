/-
  DERIVED. GIVEN WITH THE SEED: THE CARDS: each row of YtfonekpmkdkgnaaGreatDoorRows.lean that lists a variable, with what it lists TIED to the program's text (the seventh form; the later family's looks); each row that meets fmt, with fmt's text TOLD by the authors' own Lean function (tested against real Go, not proved from fmt's source: count such statements apart). THE CARD IS WHAT COUNTS. Prove the row's statement (the work); the ties are given (YtfonekpmkdkgnaaGreatDoorTie.lean); close each card by the builder's one call (the guide's Derived/Test/ToyasCard.lean, 'card_holds'). Laid BY PROGRAM, IN A SANDBOX (cutbox-door.mjs). By AI agents, Wed Nov 11 2026. No macro, syntax, notation, axiom, sorry.
-/
import Derived.Test.YtfonekpmkdkgnaaGreatDoorRows
import GoSem.ClaimSeven
namespace Go.Proofs.YtfonekpmkdkgnaaGreatDoor
namespace Rows

/-- THE TIED CARD OF 'outriderlaw09.ConfigFinds'. -/
def configFindsCard : Claim7 := { stood := { row := configFindsRow, standIns := [], harness := (true, "3f3a4f523625710108ada76b9195579658de1eb7ac238c5a1be87e10afbaa608"), looks := true }, kinds := [], alts := [], laidByText := true, laidKinds := [.data, .data, .data, .data, .sentinel, .sentinel, .pinned], laidTests := true, laidLooks := .later }
def ConfigFindsCardSaid : Prop := Claim7.holds Tryz.pinned (.plain (OpenSpec.ofChange configFindsSpec)) configFindsCard

/-- THE TIED CARD OF 'outriderlaw11.FingerPrints'. -/
def fingerPrintsCard : Claim7 := { stood := { row := fingerPrintsRow, standIns := [], harness := (true, "3f3a4f523625710108ada76b9195579658de1eb7ac238c5a1be87e10afbaa608"), looks := true }, kinds := [], alts := [], laidByText := true, laidKinds := [.data, .data, .data, .data, .sentinel, .sentinel, .pinned], laidTests := true, laidLooks := .later }
def FingerPrintsCardSaid : Prop := Claim7.holds Tryz.pinned (.plain (OpenSpec.ofChange fingerPrintsSpec)) fingerPrintsCard

/-- THE SECOND FORM's CARD OF 'outriderlaw09.ConfigFinds'. -/
def configFindsUptoCard : Claim7 := { stood := { row := configFindsUptoRow, standIns := [], harness := (true, "3f3a4f523625710108ada76b9195579658de1eb7ac238c5a1be87e10afbaa608"), looks := true }, kinds := [], alts := [], laidByText := true, laidKinds := [.data, .data, .data, .data, .sentinel, .sentinel, .pinned], laidTests := true, laidLooks := .later }
def ConfigFindsUptoCardSaid : Prop := Claim7.holds Tryz.pinned (.plain (OpenSpec.upto configFindsSpec)) configFindsUptoCard

/-- THE SECOND FORM's CARD OF 'outriderlaw11.FingerPrints'. -/
def fingerPrintsUptoCard : Claim7 := { stood := { row := fingerPrintsUptoRow, standIns := [], harness := (true, "3f3a4f523625710108ada76b9195579658de1eb7ac238c5a1be87e10afbaa608"), looks := true }, kinds := [], alts := [], laidByText := true, laidKinds := [.data, .data, .data, .data, .sentinel, .sentinel, .pinned], laidTests := true, laidLooks := .later }
def FingerPrintsUptoCardSaid : Prop := Claim7.holds Tryz.pinned (.plain (OpenSpec.upto fingerPrintsSpec)) fingerPrintsUptoCard
end Rows
end Go.Proofs.YtfonekpmkdkgnaaGreatDoor
