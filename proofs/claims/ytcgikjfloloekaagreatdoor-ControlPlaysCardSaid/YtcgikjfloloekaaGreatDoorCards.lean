/-
  DERIVED. GIVEN WITH THE SEED: THE CARDS: each row of YtcgikjfloloekaaGreatDoorRows.lean that lists a variable, with what it lists TIED to the program's text (the seventh form; the later family's looks); each row that meets fmt, with fmt's text TOLD by the authors' own Lean function (tested against real Go, not proved from fmt's source: count such statements apart). THE CARD IS WHAT COUNTS. Prove the row's statement (the work); the ties are given (YtcgikjfloloekaaGreatDoorTie.lean); close each card by the builder's one call (the guide's Derived/Test/ToyasCard.lean, 'card_holds'). Laid BY PROGRAM, IN A SANDBOX (cutbox-door.mjs). By AI agents, Wed Nov 11 2026. No macro, syntax, notation, axiom, sorry.
-/
import Derived.Test.YtcgikjfloloekaaGreatDoorRows
import GoSem.ClaimSeven
namespace Go.Proofs.YtcgikjfloloekaaGreatDoor
namespace Rows

/-- THE TIED CARD OF 'outriderlaw20.ControlNonces'. -/
def controlNoncesCard : Claim7 := { stood := { row := controlNoncesRow, standIns := [], harness := (true, "87aa43f127c66ec33be1fa52d0ac60d4fcd834211ecf821824abd49e7f690972"), looks := true }, kinds := [], alts := [], laidByText := true, laidKinds := [.data, .data, .data, .data, .sentinel, .sentinel, .pinned], laidTests := true, laidLooks := .later }
def ControlNoncesCardSaid : Prop := Claim7.holds Tryz.pinned (.plain (OpenSpec.ofChange controlNoncesSpec)) controlNoncesCard

/-- THE TIED CARD OF 'outriderlaw20.ControlPlays'. -/
def controlPlaysCard : Claim7 := { stood := { row := controlPlaysRow, standIns := [], harness := (true, "87aa43f127c66ec33be1fa52d0ac60d4fcd834211ecf821824abd49e7f690972"), looks := true }, kinds := [], alts := [], laidByText := true, laidKinds := [.data, .data, .data, .data, .sentinel, .sentinel, .pinned], laidTests := true, laidLooks := .later }
def ControlPlaysCardSaid : Prop := Claim7.holds Tryz.pinned (.plain (OpenSpec.ofChange controlPlaysSpec)) controlPlaysCard

/-- THE TIED CARD OF 'outriderlaw20.ControlReaches'. -/
def controlReachesCard : Claim7 := { stood := { row := controlReachesRow, standIns := [], harness := (true, "87aa43f127c66ec33be1fa52d0ac60d4fcd834211ecf821824abd49e7f690972"), looks := true }, kinds := [], alts := [], laidByText := true, laidKinds := [.data, .data, .data, .data, .sentinel, .sentinel, .pinned], laidTests := true, laidLooks := .later }
def ControlReachesCardSaid : Prop := Claim7.holds Tryz.pinned (.plain (OpenSpec.ofChange controlReachesSpec)) controlReachesCard

/-- THE SECOND FORM's CARD OF 'outriderlaw20.ControlNonces'. -/
def controlNoncesUptoCard : Claim7 := { stood := { row := controlNoncesUptoRow, standIns := [], harness := (true, "87aa43f127c66ec33be1fa52d0ac60d4fcd834211ecf821824abd49e7f690972"), looks := true }, kinds := [], alts := [], laidByText := true, laidKinds := [.data, .data, .data, .data, .sentinel, .sentinel, .pinned], laidTests := true, laidLooks := .later }
def ControlNoncesUptoCardSaid : Prop := Claim7.holds Tryz.pinned (.plain (OpenSpec.upto controlNoncesSpec)) controlNoncesUptoCard

/-- THE SECOND FORM's CARD OF 'outriderlaw20.ControlPlays'. -/
def controlPlaysUptoCard : Claim7 := { stood := { row := controlPlaysUptoRow, standIns := [], harness := (true, "87aa43f127c66ec33be1fa52d0ac60d4fcd834211ecf821824abd49e7f690972"), looks := true }, kinds := [], alts := [], laidByText := true, laidKinds := [.data, .data, .data, .data, .sentinel, .sentinel, .pinned], laidTests := true, laidLooks := .later }
def ControlPlaysUptoCardSaid : Prop := Claim7.holds Tryz.pinned (.plain (OpenSpec.upto controlPlaysSpec)) controlPlaysUptoCard

/-- THE SECOND FORM's CARD OF 'outriderlaw20.ControlReaches'. -/
def controlReachesUptoCard : Claim7 := { stood := { row := controlReachesUptoRow, standIns := [], harness := (true, "87aa43f127c66ec33be1fa52d0ac60d4fcd834211ecf821824abd49e7f690972"), looks := true }, kinds := [], alts := [], laidByText := true, laidKinds := [.data, .data, .data, .data, .sentinel, .sentinel, .pinned], laidTests := true, laidLooks := .later }
def ControlReachesUptoCardSaid : Prop := Claim7.holds Tryz.pinned (.plain (OpenSpec.upto controlReachesSpec)) controlReachesUptoCard
end Rows
end Go.Proofs.YtcgikjfloloekaaGreatDoor
