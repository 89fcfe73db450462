/-
  DERIVED. GIVEN WITH THE SEED: THE CARDS: each row of YtogpolfhcbgcbaaGreatDoorRows.lean that lists a variable, with what it lists TIED to the program's text (the seventh form; the later family's looks); each row that meets fmt, with fmt's text TOLD by the authors' own Lean function (tested against real Go, not proved from fmt's source: count such statements apart). THE CARD IS WHAT COUNTS. Prove the row's statement (the work); the ties are given (YtogpolfhcbgcbaaGreatDoorTie.lean); close each card by the builder's one call (the guide's Derived/Test/ToyasCard.lean, 'card_holds'). Laid BY PROGRAM, IN A SANDBOX (cutbox-door.mjs). By AI agents, Wed Nov 11 2026. No macro, syntax, notation, axiom, sorry.
-/
import Derived.Test.YtogpolfhcbgcbaaGreatDoorRows
import GoSem.ClaimSeven
namespace Go.Proofs.YtogpolfhcbgcbaaGreatDoor
namespace Rows

/-- THE TIED CARD OF 'outriderlaw21.MatchBest'. -/
def matchBestCard : Claim7 := { stood := { row := matchBestRow, standIns := [], harness := (true, "be37521ed8e9b085d61b74c995fd6cdd281b23a377926ec8f3b798163f243040"), looks := true }, kinds := [], alts := [], laidByText := true, laidKinds := [.data, .data, .data, .data, .sentinel, .sentinel, .pinned], laidTests := true, laidLooks := .later }
def MatchBestCardSaid : Prop := Claim7.holds Tryz.pinned (.plain (OpenSpec.ofChange matchBestSpec)) matchBestCard

/-- THE TIED CARD OF 'outriderlaw21.MatchRoutes'. -/
def matchRoutesCard : Claim7 := { stood := { row := matchRoutesRow, standIns := [], harness := (true, "be37521ed8e9b085d61b74c995fd6cdd281b23a377926ec8f3b798163f243040"), looks := true }, kinds := [], alts := [], laidByText := true, laidKinds := [.data, .data, .data, .data, .sentinel, .sentinel, .pinned], laidTests := true, laidLooks := .later }
def MatchRoutesCardSaid : Prop := Claim7.holds Tryz.pinned (.plain (OpenSpec.ofChange matchRoutesSpec)) matchRoutesCard

/-- THE TIED CARD OF 'outriderlaw21.MatchAll'. -/
def matchAllCard : Claim7 := { stood := { row := matchAllRow, standIns := [], harness := (true, "be37521ed8e9b085d61b74c995fd6cdd281b23a377926ec8f3b798163f243040"), looks := true }, kinds := [], alts := [], laidByText := true, laidKinds := [.data, .data, .data, .data, .sentinel, .sentinel, .pinned], laidTests := true, laidLooks := .later }
def MatchAllCardSaid : Prop := Claim7.holds Tryz.pinned (.plain (OpenSpec.ofChange matchAllSpec)) matchAllCard

/-- THE SECOND FORM's CARD OF 'outriderlaw21.MatchBest'. -/
def matchBestUptoCard : Claim7 := { stood := { row := matchBestUptoRow, standIns := [], harness := (true, "be37521ed8e9b085d61b74c995fd6cdd281b23a377926ec8f3b798163f243040"), looks := true }, kinds := [], alts := [], laidByText := true, laidKinds := [.data, .data, .data, .data, .sentinel, .sentinel, .pinned], laidTests := true, laidLooks := .later }
def MatchBestUptoCardSaid : Prop := Claim7.holds Tryz.pinned (.plain (OpenSpec.upto matchBestSpec)) matchBestUptoCard

/-- THE SECOND FORM's CARD OF 'outriderlaw21.MatchRoutes'. -/
def matchRoutesUptoCard : Claim7 := { stood := { row := matchRoutesUptoRow, standIns := [], harness := (true, "be37521ed8e9b085d61b74c995fd6cdd281b23a377926ec8f3b798163f243040"), looks := true }, kinds := [], alts := [], laidByText := true, laidKinds := [.data, .data, .data, .data, .sentinel, .sentinel, .pinned], laidTests := true, laidLooks := .later }
def MatchRoutesUptoCardSaid : Prop := Claim7.holds Tryz.pinned (.plain (OpenSpec.upto matchRoutesSpec)) matchRoutesUptoCard

/-- THE SECOND FORM's CARD OF 'outriderlaw21.MatchAll'. -/
def matchAllUptoCard : Claim7 := { stood := { row := matchAllUptoRow, standIns := [], harness := (true, "be37521ed8e9b085d61b74c995fd6cdd281b23a377926ec8f3b798163f243040"), looks := true }, kinds := [], alts := [], laidByText := true, laidKinds := [.data, .data, .data, .data, .sentinel, .sentinel, .pinned], laidTests := true, laidLooks := .later }
def MatchAllUptoCardSaid : Prop := Claim7.holds Tryz.pinned (.plain (OpenSpec.upto matchAllSpec)) matchAllUptoCard
end Rows
end Go.Proofs.YtogpolfhcbgcbaaGreatDoor
