/-
  DERIVED. GIVEN WITH THE SEED: THE CARDS: each row of YtckbbcjbbmgmoaaGreatDoorRows.lean that lists a variable, with what it lists TIED to the program's text (the seventh form; the later family's looks); each row that meets fmt, with fmt's text TOLD by the authors' own Lean function (tested against real Go, not proved from fmt's source: count such statements apart). THE CARD IS WHAT COUNTS. Prove the row's statement (the work); the ties are given (YtckbbcjbbmgmoaaGreatDoorTie.lean); close each card by the builder's one call (the guide's Derived/Test/ToyasCard.lean, 'card_holds'). Laid BY PROGRAM, IN A SANDBOX (cutbox-door.mjs). By AI agents, Wed Nov 11 2026. No macro, syntax, notation, axiom, sorry.
-/
import Derived.Test.YtckbbcjbbmgmoaaGreatDoorRows
import GoSem.ClaimSeven
namespace Go.Proofs.YtckbbcjbbmgmoaaGreatDoor
namespace Rows

/-- THE TIED CARD OF 'outriderlaw09.ConfigApart'. -/
def configApartCard : Claim7 := { stood := { row := configApartRow, standIns := [], harness := (true, "344f8ba14c6494e660957b17708635e42d1ceabef446ff9dad66485e9d5d3288"), looks := true }, kinds := [], alts := [], laidByText := true, laidKinds := [.data, .data, .data, .data, .sentinel, .sentinel, .pinned], laidTests := true, laidLooks := .later }
def ConfigApartCardSaid : Prop := Claim7.holds Tryz.pinned (.plain (OpenSpec.ofChange configApartSpec)) configApartCard

/-- THE TIED CARD OF 'outriderlaw09.ConfigFinds'. -/
def configFindsCard : Claim7 := { stood := { row := configFindsRow, standIns := [], harness := (true, "344f8ba14c6494e660957b17708635e42d1ceabef446ff9dad66485e9d5d3288"), looks := true }, kinds := [], alts := [], laidByText := true, laidKinds := [.data, .data, .data, .data, .sentinel, .sentinel, .pinned], laidTests := true, laidLooks := .later }
def ConfigFindsCardSaid : Prop := Claim7.holds Tryz.pinned (.plain (OpenSpec.ofChange configFindsSpec)) configFindsCard

/-- THE TIED CARD OF 'outriderlaw10.ValidFaults'. -/
def validFaultsCard : Claim7 := { stood := { row := validFaultsRow, standIns := [], harness := (true, "344f8ba14c6494e660957b17708635e42d1ceabef446ff9dad66485e9d5d3288"), looks := true }, kinds := [], alts := [], laidByText := true, laidKinds := [.data, .data, .data, .data, .sentinel, .sentinel, .pinned], laidTests := true, laidLooks := .later }
def ValidFaultsCardSaid : Prop := Claim7.holds Tryz.pinned (.plain (OpenSpec.ofChange validFaultsSpec)) validFaultsCard

/-- THE TIED CARD OF 'outriderlaw10.ValidDrops'. -/
def validDropsCard : Claim7 := { stood := { row := validDropsRow, standIns := [], harness := (true, "344f8ba14c6494e660957b17708635e42d1ceabef446ff9dad66485e9d5d3288"), looks := true }, kinds := [], alts := [], laidByText := true, laidKinds := [.data, .data, .data, .data, .sentinel, .sentinel, .pinned], laidTests := true, laidLooks := .later }
def ValidDropsCardSaid : Prop := Claim7.holds Tryz.pinned (.plain (OpenSpec.ofChange validDropsSpec)) validDropsCard

/-- THE TIED CARD OF 'outriderlaw26.HandoffMessages'. -/
def handoffMessagesCard : Claim7 := { stood := { row := handoffMessagesRow, standIns := [], harness := (true, "344f8ba14c6494e660957b17708635e42d1ceabef446ff9dad66485e9d5d3288"), looks := true }, kinds := [], alts := [], laidByText := true, laidKinds := [.data, .data, .data, .data, .sentinel, .sentinel, .pinned], laidTests := true, laidLooks := .later }
def HandoffMessagesCardSaid : Prop := Claim7.holds Tryz.pinned (.plain (OpenSpec.ofChange handoffMessagesSpec)) handoffMessagesCard

/-- THE TIED CARD OF 'outriderlaw26.HandoffPlays'. -/
def handoffPlaysCard : Claim7 := { stood := { row := handoffPlaysRow, standIns := [], harness := (true, "344f8ba14c6494e660957b17708635e42d1ceabef446ff9dad66485e9d5d3288"), looks := true }, kinds := [], alts := [], laidByText := true, laidKinds := [.data, .data, .data, .data, .sentinel, .sentinel, .pinned], laidTests := true, laidLooks := .later }
def HandoffPlaysCardSaid : Prop := Claim7.holds Tryz.pinned (.plain (OpenSpec.ofChange handoffPlaysSpec)) handoffPlaysCard

/-- THE TIED CARD OF 'outriderlaw26.HandoffEpochs'. -/
def handoffEpochsCard : Claim7 := { stood := { row := handoffEpochsRow, standIns := [], harness := (true, "344f8ba14c6494e660957b17708635e42d1ceabef446ff9dad66485e9d5d3288"), looks := true }, kinds := [], alts := [], laidByText := true, laidKinds := [.data, .data, .data, .data, .sentinel, .sentinel, .pinned], laidTests := true, laidLooks := .later }
def HandoffEpochsCardSaid : Prop := Claim7.holds Tryz.pinned (.plain (OpenSpec.ofChange handoffEpochsSpec)) handoffEpochsCard

/-- THE TIED CARD OF 'outriderlaw26.HandoffOnce'. -/
def handoffOnceCard : Claim7 := { stood := { row := handoffOnceRow, standIns := [], harness := (true, "344f8ba14c6494e660957b17708635e42d1ceabef446ff9dad66485e9d5d3288"), looks := true }, kinds := [], alts := [], laidByText := true, laidKinds := [.data, .data, .data, .data, .sentinel, .sentinel, .pinned], laidTests := true, laidLooks := .later }
def HandoffOnceCardSaid : Prop := Claim7.holds Tryz.pinned (.plain (OpenSpec.ofChange handoffOnceSpec)) handoffOnceCard

/-- THE SECOND FORM's CARD OF 'outriderlaw09.ConfigApart'. -/
def configApartUptoCard : Claim7 := { stood := { row := configApartUptoRow, standIns := [], harness := (true, "344f8ba14c6494e660957b17708635e42d1ceabef446ff9dad66485e9d5d3288"), looks := true }, kinds := [], alts := [], laidByText := true, laidKinds := [.data, .data, .data, .data, .sentinel, .sentinel, .pinned], laidTests := true, laidLooks := .later }
def ConfigApartUptoCardSaid : Prop := Claim7.holds Tryz.pinned (.plain (OpenSpec.upto configApartSpec)) configApartUptoCard

/-- THE SECOND FORM's CARD OF 'outriderlaw09.ConfigFinds'. -/
def configFindsUptoCard : Claim7 := { stood := { row := configFindsUptoRow, standIns := [], harness := (true, "344f8ba14c6494e660957b17708635e42d1ceabef446ff9dad66485e9d5d3288"), looks := true }, kinds := [], alts := [], laidByText := true, laidKinds := [.data, .data, .data, .data, .sentinel, .sentinel, .pinned], laidTests := true, laidLooks := .later }
def ConfigFindsUptoCardSaid : Prop := Claim7.holds Tryz.pinned (.plain (OpenSpec.upto configFindsSpec)) configFindsUptoCard

/-- THE SECOND FORM's CARD OF 'outriderlaw10.ValidFaults'. -/
def validFaultsUptoCard : Claim7 := { stood := { row := validFaultsUptoRow, standIns := [], harness := (true, "344f8ba14c6494e660957b17708635e42d1ceabef446ff9dad66485e9d5d3288"), looks := true }, kinds := [], alts := [], laidByText := true, laidKinds := [.data, .data, .data, .data, .sentinel, .sentinel, .pinned], laidTests := true, laidLooks := .later }
def ValidFaultsUptoCardSaid : Prop := Claim7.holds Tryz.pinned (.plain (OpenSpec.upto validFaultsSpec)) validFaultsUptoCard

/-- THE SECOND FORM's CARD OF 'outriderlaw10.ValidDrops'. -/
def validDropsUptoCard : Claim7 := { stood := { row := validDropsUptoRow, standIns := [], harness := (true, "344f8ba14c6494e660957b17708635e42d1ceabef446ff9dad66485e9d5d3288"), looks := true }, kinds := [], alts := [], laidByText := true, laidKinds := [.data, .data, .data, .data, .sentinel, .sentinel, .pinned], laidTests := true, laidLooks := .later }
def ValidDropsUptoCardSaid : Prop := Claim7.holds Tryz.pinned (.plain (OpenSpec.upto validDropsSpec)) validDropsUptoCard

/-- THE SECOND FORM's CARD OF 'outriderlaw26.HandoffMessages'. -/
def handoffMessagesUptoCard : Claim7 := { stood := { row := handoffMessagesUptoRow, standIns := [], harness := (true, "344f8ba14c6494e660957b17708635e42d1ceabef446ff9dad66485e9d5d3288"), looks := true }, kinds := [], alts := [], laidByText := true, laidKinds := [.data, .data, .data, .data, .sentinel, .sentinel, .pinned], laidTests := true, laidLooks := .later }
def HandoffMessagesUptoCardSaid : Prop := Claim7.holds Tryz.pinned (.plain (OpenSpec.upto handoffMessagesSpec)) handoffMessagesUptoCard

/-- THE SECOND FORM's CARD OF 'outriderlaw26.HandoffPlays'. -/
def handoffPlaysUptoCard : Claim7 := { stood := { row := handoffPlaysUptoRow, standIns := [], harness := (true, "344f8ba14c6494e660957b17708635e42d1ceabef446ff9dad66485e9d5d3288"), looks := true }, kinds := [], alts := [], laidByText := true, laidKinds := [.data, .data, .data, .data, .sentinel, .sentinel, .pinned], laidTests := true, laidLooks := .later }
def HandoffPlaysUptoCardSaid : Prop := Claim7.holds Tryz.pinned (.plain (OpenSpec.upto handoffPlaysSpec)) handoffPlaysUptoCard

/-- THE SECOND FORM's CARD OF 'outriderlaw26.HandoffEpochs'. -/
def handoffEpochsUptoCard : Claim7 := { stood := { row := handoffEpochsUptoRow, standIns := [], harness := (true, "344f8ba14c6494e660957b17708635e42d1ceabef446ff9dad66485e9d5d3288"), looks := true }, kinds := [], alts := [], laidByText := true, laidKinds := [.data, .data, .data, .data, .sentinel, .sentinel, .pinned], laidTests := true, laidLooks := .later }
def HandoffEpochsUptoCardSaid : Prop := Claim7.holds Tryz.pinned (.plain (OpenSpec.upto handoffEpochsSpec)) handoffEpochsUptoCard

/-- THE SECOND FORM's CARD OF 'outriderlaw26.HandoffOnce'. -/
def handoffOnceUptoCard : Claim7 := { stood := { row := handoffOnceUptoRow, standIns := [], harness := (true, "344f8ba14c6494e660957b17708635e42d1ceabef446ff9dad66485e9d5d3288"), looks := true }, kinds := [], alts := [], laidByText := true, laidKinds := [.data, .data, .data, .data, .sentinel, .sentinel, .pinned], laidTests := true, laidLooks := .later }
def HandoffOnceUptoCardSaid : Prop := Claim7.holds Tryz.pinned (.plain (OpenSpec.upto handoffOnceSpec)) handoffOnceUptoCard
end Rows
end Go.Proofs.YtckbbcjbbmgmoaaGreatDoor
