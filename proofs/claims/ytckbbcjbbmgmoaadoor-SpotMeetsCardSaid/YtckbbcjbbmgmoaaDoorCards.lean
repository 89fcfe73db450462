/-
  DERIVED. GIVEN WITH THE SEED: THE CARDS: each row of YtckbbcjbbmgmoaaDoorRows.lean that lists a variable, with what it lists TIED to the program's text (the seventh form; the later family's looks); each row that meets fmt, with fmt's text TOLD by the authors' own Lean function (tested against real Go, not proved from fmt's source: count such statements apart). THE CARD IS WHAT COUNTS. Prove the row's statement (the work); the ties are given (YtckbbcjbbmgmoaaDoorTie.lean); close each card by the builder's one call (the guide's Derived/Test/ToyasCard.lean, 'card_holds'). Laid BY PROGRAM, IN A SANDBOX (cutbox-door.mjs). By AI agents, Wed Nov 11 2026. No macro, syntax, notation, axiom, sorry.
-/
import Derived.Test.YtckbbcjbbmgmoaaDoorRows
import GoSem.ClaimSeven
namespace Go.Proofs.YtckbbcjbbmgmoaaDoor
namespace Rows

/-- THE TIED CARD OF 'outriderlaw04.SpotBytes'. -/
def spotBytesCard : Claim7 := { stood := { row := spotBytesRow, standIns := [], harness := (true, "49ed6cd99345a6e264ffd4c5a15f3b829ae333decfaf3bd34a2a82f50465744a"), looks := true }, kinds := [], alts := [], laidByText := true, laidKinds := [.data, .data, .data, .data, .sentinel, .sentinel, .pinned], laidTests := true, laidLooks := .later }
def SpotBytesCardSaid : Prop := Claim7.holds Tryd.pinned (.plain (OpenSpec.ofChange spotBytesSpec)) spotBytesCard

/-- THE TIED CARD OF 'outriderlaw04.SpotOrder'. -/
def spotOrderCard : Claim7 := { stood := { row := spotOrderRow, standIns := [], harness := (true, "49ed6cd99345a6e264ffd4c5a15f3b829ae333decfaf3bd34a2a82f50465744a"), looks := true }, kinds := [], alts := [], laidByText := true, laidKinds := [.data, .data, .data, .data, .sentinel, .sentinel, .pinned], laidTests := true, laidLooks := .later }
def SpotOrderCardSaid : Prop := Claim7.holds Tryd.pinned (.plain (OpenSpec.ofChange spotOrderSpec)) spotOrderCard

/-- THE TIED CARD OF 'outriderlaw04.SpotTexts'. -/
def spotTextsCard : Claim7 := { stood := { row := spotTextsRow, standIns := [], harness := (true, "49ed6cd99345a6e264ffd4c5a15f3b829ae333decfaf3bd34a2a82f50465744a"), looks := true }, kinds := [], alts := [], laidByText := true, laidKinds := [.data, .data, .data, .data, .sentinel, .sentinel, .pinned], laidTests := true, laidLooks := .later }
def SpotTextsCardSaid : Prop := Claim7.holds Tryd.pinned (.plain (OpenSpec.ofChange spotTextsSpec)) spotTextsCard

/-- THE TIED CARD OF 'outriderlaw04.SpotMeets'. -/
def spotMeetsCard : Claim7 := { stood := { row := spotMeetsRow, standIns := [], harness := (true, "49ed6cd99345a6e264ffd4c5a15f3b829ae333decfaf3bd34a2a82f50465744a"), looks := true }, kinds := [], alts := [], laidByText := true, laidKinds := [.data, .data, .data, .data, .sentinel, .sentinel, .pinned], laidTests := true, laidLooks := .later }
def SpotMeetsCardSaid : Prop := Claim7.holds Tryd.pinned (.plain (OpenSpec.ofChange spotMeetsSpec)) spotMeetsCard

/-- THE SECOND FORM's CARD OF 'outriderlaw04.SpotBytes'. -/
def spotBytesUptoCard : Claim7 := { stood := { row := spotBytesUptoRow, standIns := [], harness := (true, "49ed6cd99345a6e264ffd4c5a15f3b829ae333decfaf3bd34a2a82f50465744a"), looks := true }, kinds := [], alts := [], laidByText := true, laidKinds := [.data, .data, .data, .data, .sentinel, .sentinel, .pinned], laidTests := true, laidLooks := .later }
def SpotBytesUptoCardSaid : Prop := Claim7.holds Tryd.pinned (.plain (OpenSpec.upto spotBytesSpec)) spotBytesUptoCard

/-- THE SECOND FORM's CARD OF 'outriderlaw04.SpotOrder'. -/
def spotOrderUptoCard : Claim7 := { stood := { row := spotOrderUptoRow, standIns := [], harness := (true, "49ed6cd99345a6e264ffd4c5a15f3b829ae333decfaf3bd34a2a82f50465744a"), looks := true }, kinds := [], alts := [], laidByText := true, laidKinds := [.data, .data, .data, .data, .sentinel, .sentinel, .pinned], laidTests := true, laidLooks := .later }
def SpotOrderUptoCardSaid : Prop := Claim7.holds Tryd.pinned (.plain (OpenSpec.upto spotOrderSpec)) spotOrderUptoCard

/-- THE SECOND FORM's CARD OF 'outriderlaw04.SpotTexts'. -/
def spotTextsUptoCard : Claim7 := { stood := { row := spotTextsUptoRow, standIns := [], harness := (true, "49ed6cd99345a6e264ffd4c5a15f3b829ae333decfaf3bd34a2a82f50465744a"), looks := true }, kinds := [], alts := [], laidByText := true, laidKinds := [.data, .data, .data, .data, .sentinel, .sentinel, .pinned], laidTests := true, laidLooks := .later }
def SpotTextsUptoCardSaid : Prop := Claim7.holds Tryd.pinned (.plain (OpenSpec.upto spotTextsSpec)) spotTextsUptoCard

/-- THE SECOND FORM's CARD OF 'outriderlaw04.SpotMeets'. -/
def spotMeetsUptoCard : Claim7 := { stood := { row := spotMeetsUptoRow, standIns := [], harness := (true, "49ed6cd99345a6e264ffd4c5a15f3b829ae333decfaf3bd34a2a82f50465744a"), looks := true }, kinds := [], alts := [], laidByText := true, laidKinds := [.data, .data, .data, .data, .sentinel, .sentinel, .pinned], laidTests := true, laidLooks := .later }
def SpotMeetsUptoCardSaid : Prop := Claim7.holds Tryd.pinned (.plain (OpenSpec.upto spotMeetsSpec)) spotMeetsUptoCard
end Rows
end Go.Proofs.YtckbbcjbbmgmoaaDoor
