/-
  DERIVED. GIVEN WITH THE SEED: THE CARDS: each row of YtbaedpfgjpkabaaGreatDoorRows.lean that lists a variable, with what it lists TIED to the program's text (the seventh form; the later family's looks); each row that meets fmt, with fmt's text TOLD by the authors' own Lean function (tested against real Go, not proved from fmt's source: count such statements apart). THE CARD IS WHAT COUNTS. Prove the row's statement (the work); the ties are given (YtbaedpfgjpkabaaGreatDoorTie.lean); close each card by the builder's one call (the guide's Derived/Test/ToyasCard.lean, 'card_holds'). Laid BY PROGRAM, IN A SANDBOX (cutbox-door.mjs). By AI agents, Wed Nov 11 2026. No macro, syntax, notation, axiom, sorry.
-/
import Derived.Test.YtbaedpfgjpkabaaGreatDoorRows
import GoSem.ClaimSeven
namespace Go.Proofs.YtbaedpfgjpkabaaGreatDoor
namespace Rows

/-- THE TIED CARD OF 'crumplelaw02.ChannelCodes'. -/
def channelCodesCard : Claim7 := { stood := { row := channelCodesRow, standIns := [], harness := (true, "60d6ab7a3705e4d389f432389cc0b257e1dd0c53e258f9a43d48679988e3a89d"), looks := false }, kinds := [], alts := [], laidByText := true, laidKinds := [.data, .data, .data, .widerDeep, .widerDeep, .funcs, .funcs, .funcs], laidTests := true, laidLooks := .later }
def ChannelCodesCardSaid : Prop := Claim7.holds Tryz.pinned (.plain (OpenSpec.ofChange channelCodesSpec)) channelCodesCard

/-- THE TIED CARD OF 'crumplelaw02.ChannelSensors'. -/
def channelSensorsCard : Claim7 := { stood := { row := channelSensorsRow, standIns := [], harness := (true, "60d6ab7a3705e4d389f432389cc0b257e1dd0c53e258f9a43d48679988e3a89d"), looks := false }, kinds := [], alts := [], laidByText := true, laidKinds := [.data, .data, .data, .widerDeep, .widerDeep, .funcs, .funcs, .funcs], laidTests := true, laidLooks := .later }
def ChannelSensorsCardSaid : Prop := Claim7.holds Tryz.pinned (.plain (OpenSpec.ofChange channelSensorsSpec)) channelSensorsCard

/-- THE TIED CARD OF 'crumplelaw02.ChannelKernels'. -/
def channelKernelsCard : Claim7 := { stood := { row := channelKernelsRow, standIns := [], harness := (true, "60d6ab7a3705e4d389f432389cc0b257e1dd0c53e258f9a43d48679988e3a89d"), looks := false }, kinds := [], alts := [], laidByText := true, laidKinds := [.data, .data, .data, .widerDeep, .widerDeep, .funcs, .funcs, .funcs], laidTests := true, laidLooks := .later }
def ChannelKernelsCardSaid : Prop := Claim7.holds Tryz.pinned (.plain (OpenSpec.ofChange channelKernelsSpec)) channelKernelsCard

/-- THE TIED CARD OF 'crumplelaw02.ChannelEncloses'. -/
def channelEnclosesCard : Claim7 := { stood := { row := channelEnclosesRow, standIns := [], harness := (true, "60d6ab7a3705e4d389f432389cc0b257e1dd0c53e258f9a43d48679988e3a89d"), looks := false }, kinds := [], alts := [], laidByText := true, laidKinds := [.data, .data, .data, .widerDeep, .widerDeep, .funcs, .funcs, .funcs], laidTests := true, laidLooks := .later }
def ChannelEnclosesCardSaid : Prop := Claim7.holds Tryz.pinned (.plain (OpenSpec.ofChange channelEnclosesSpec)) channelEnclosesCard

/-- THE TIED CARD OF 'crumplelaw02.ChannelValues'. -/
def channelValuesCard : Claim7 := { stood := { row := channelValuesRow, standIns := [], harness := (true, "60d6ab7a3705e4d389f432389cc0b257e1dd0c53e258f9a43d48679988e3a89d"), looks := false }, kinds := [], alts := [], laidByText := true, laidKinds := [.data, .data, .data, .widerDeep, .widerDeep, .funcs, .funcs, .funcs], laidTests := true, laidLooks := .later }
def ChannelValuesCardSaid : Prop := Claim7.holds Tryz.pinned (.plain (OpenSpec.ofChange channelValuesSpec)) channelValuesCard

/-- THE TIED CARD OF 'crumplelaw02.ChannelFills'. -/
def channelFillsCard : Claim7 := { stood := { row := channelFillsRow, standIns := [], harness := (true, "60d6ab7a3705e4d389f432389cc0b257e1dd0c53e258f9a43d48679988e3a89d"), looks := false }, kinds := [], alts := [], laidByText := true, laidKinds := [.data, .data, .data, .widerDeep, .widerDeep, .funcs, .funcs, .funcs], laidTests := true, laidLooks := .later }
def ChannelFillsCardSaid : Prop := Claim7.holds Tryz.pinned (.plain (OpenSpec.ofChange channelFillsSpec)) channelFillsCard

/-- THE TIED CARD OF 'crumplelaw02.ChannelSums'. -/
def channelSumsCard : Claim7 := { stood := { row := channelSumsRow, standIns := [], harness := (true, "60d6ab7a3705e4d389f432389cc0b257e1dd0c53e258f9a43d48679988e3a89d"), looks := false }, kinds := [], alts := [], laidByText := true, laidKinds := [.data, .data, .data, .widerDeep, .widerDeep, .funcs, .funcs, .funcs], laidTests := true, laidLooks := .later }
def ChannelSumsCardSaid : Prop := Claim7.holds Tryz.pinned (.plain (OpenSpec.ofChange channelSumsSpec)) channelSumsCard

/-- THE TIED CARD OF 'crumplelaw02.ChannelTrue'. -/
def channelTrueCard : Claim7 := { stood := { row := channelTrueRow, standIns := [], harness := (true, "60d6ab7a3705e4d389f432389cc0b257e1dd0c53e258f9a43d48679988e3a89d"), looks := false }, kinds := [], alts := [], laidByText := true, laidKinds := [.data, .data, .data, .widerDeep, .widerDeep, .funcs, .funcs, .funcs], laidTests := true, laidLooks := .later }
def ChannelTrueCardSaid : Prop := Claim7.holds Tryz.pinned (.plain (OpenSpec.ofChange channelTrueSpec)) channelTrueCard

/-- THE TIED CARD OF 'crumplelaw02.ChannelStays'. -/
def channelStaysCard : Claim7 := { stood := { row := channelStaysRow, standIns := [], harness := (true, "60d6ab7a3705e4d389f432389cc0b257e1dd0c53e258f9a43d48679988e3a89d"), looks := false }, kinds := [], alts := [], laidByText := true, laidKinds := [.data, .data, .data, .widerDeep, .widerDeep, .funcs, .funcs, .funcs], laidTests := true, laidLooks := .later }
def ChannelStaysCardSaid : Prop := Claim7.holds Tryz.pinned (.plain (OpenSpec.ofChange channelStaysSpec)) channelStaysCard

/-- THE TIED CARD OF 'crumplelaw02.ChannelWithin'. -/
def channelWithinCard : Claim7 := { stood := { row := channelWithinRow, standIns := [], harness := (true, "60d6ab7a3705e4d389f432389cc0b257e1dd0c53e258f9a43d48679988e3a89d"), looks := false }, kinds := [], alts := [], laidByText := true, laidKinds := [.data, .data, .data, .widerDeep, .widerDeep, .funcs, .funcs, .funcs], laidTests := true, laidLooks := .later }
def ChannelWithinCardSaid : Prop := Claim7.holds Tryz.pinned (.plain (OpenSpec.ofChange channelWithinSpec)) channelWithinCard

/-- THE TIED CARD OF 'crumplelaw02.ChannelStrings'. -/
def channelStringsCard : Claim7 := { stood := { row := channelStringsRow, standIns := [], harness := (true, "60d6ab7a3705e4d389f432389cc0b257e1dd0c53e258f9a43d48679988e3a89d"), looks := false }, kinds := [], alts := [], laidByText := true, laidKinds := [.data, .data, .data, .data, .widerDeep, .widerDeep, .funcs, .funcs, .funcs, .pinned], laidTests := true, laidLooks := .later }
def ChannelStringsCardSaid : Prop := Claim7.holds Tryz.pinned (.plain (OpenSpec.ofChange channelStringsSpec)) channelStringsCard

/-- THE TIED CARD OF 'crumplelaw02.ChannelBack'. -/
def channelBackCard : Claim7 := { stood := { row := channelBackRow, standIns := [], harness := (true, "60d6ab7a3705e4d389f432389cc0b257e1dd0c53e258f9a43d48679988e3a89d"), looks := false }, kinds := [], alts := [], laidByText := true, laidKinds := [.data, .data, .data, .data, .widerDeep, .widerDeep, .funcs, .funcs, .funcs, .pinned], laidTests := true, laidLooks := .later }
def ChannelBackCardSaid : Prop := Claim7.holds Tryz.pinned (.plain (OpenSpec.ofChange channelBackSpec)) channelBackCard

/-- THE SECOND FORM's CARD OF 'crumplelaw02.ChannelCodes'. -/
def channelCodesUptoCard : Claim7 := { stood := { row := channelCodesUptoRow, standIns := [], harness := (true, "60d6ab7a3705e4d389f432389cc0b257e1dd0c53e258f9a43d48679988e3a89d"), looks := false }, kinds := [], alts := [], laidByText := true, laidKinds := [.data, .data, .data, .widerDeep, .widerDeep, .funcs, .funcs, .funcs], laidTests := true, laidLooks := .later }
def ChannelCodesUptoCardSaid : Prop := Claim7.holds Tryz.pinned (.plain (OpenSpec.upto channelCodesSpec)) channelCodesUptoCard

/-- THE SECOND FORM's CARD OF 'crumplelaw02.ChannelSensors'. -/
def channelSensorsUptoCard : Claim7 := { stood := { row := channelSensorsUptoRow, standIns := [], harness := (true, "60d6ab7a3705e4d389f432389cc0b257e1dd0c53e258f9a43d48679988e3a89d"), looks := false }, kinds := [], alts := [], laidByText := true, laidKinds := [.data, .data, .data, .widerDeep, .widerDeep, .funcs, .funcs, .funcs], laidTests := true, laidLooks := .later }
def ChannelSensorsUptoCardSaid : Prop := Claim7.holds Tryz.pinned (.plain (OpenSpec.upto channelSensorsSpec)) channelSensorsUptoCard

/-- THE SECOND FORM's CARD OF 'crumplelaw02.ChannelKernels'. -/
def channelKernelsUptoCard : Claim7 := { stood := { row := channelKernelsUptoRow, standIns := [], harness := (true, "60d6ab7a3705e4d389f432389cc0b257e1dd0c53e258f9a43d48679988e3a89d"), looks := false }, kinds := [], alts := [], laidByText := true, laidKinds := [.data, .data, .data, .widerDeep, .widerDeep, .funcs, .funcs, .funcs], laidTests := true, laidLooks := .later }
def ChannelKernelsUptoCardSaid : Prop := Claim7.holds Tryz.pinned (.plain (OpenSpec.upto channelKernelsSpec)) channelKernelsUptoCard

/-- THE SECOND FORM's CARD OF 'crumplelaw02.ChannelEncloses'. -/
def channelEnclosesUptoCard : Claim7 := { stood := { row := channelEnclosesUptoRow, standIns := [], harness := (true, "60d6ab7a3705e4d389f432389cc0b257e1dd0c53e258f9a43d48679988e3a89d"), looks := false }, kinds := [], alts := [], laidByText := true, laidKinds := [.data, .data, .data, .widerDeep, .widerDeep, .funcs, .funcs, .funcs], laidTests := true, laidLooks := .later }
def ChannelEnclosesUptoCardSaid : Prop := Claim7.holds Tryz.pinned (.plain (OpenSpec.upto channelEnclosesSpec)) channelEnclosesUptoCard

/-- THE SECOND FORM's CARD OF 'crumplelaw02.ChannelValues'. -/
def channelValuesUptoCard : Claim7 := { stood := { row := channelValuesUptoRow, standIns := [], harness := (true, "60d6ab7a3705e4d389f432389cc0b257e1dd0c53e258f9a43d48679988e3a89d"), looks := false }, kinds := [], alts := [], laidByText := true, laidKinds := [.data, .data, .data, .widerDeep, .widerDeep, .funcs, .funcs, .funcs], laidTests := true, laidLooks := .later }
def ChannelValuesUptoCardSaid : Prop := Claim7.holds Tryz.pinned (.plain (OpenSpec.upto channelValuesSpec)) channelValuesUptoCard

/-- THE SECOND FORM's CARD OF 'crumplelaw02.ChannelFills'. -/
def channelFillsUptoCard : Claim7 := { stood := { row := channelFillsUptoRow, standIns := [], harness := (true, "60d6ab7a3705e4d389f432389cc0b257e1dd0c53e258f9a43d48679988e3a89d"), looks := false }, kinds := [], alts := [], laidByText := true, laidKinds := [.data, .data, .data, .widerDeep, .widerDeep, .funcs, .funcs, .funcs], laidTests := true, laidLooks := .later }
def ChannelFillsUptoCardSaid : Prop := Claim7.holds Tryz.pinned (.plain (OpenSpec.upto channelFillsSpec)) channelFillsUptoCard

/-- THE SECOND FORM's CARD OF 'crumplelaw02.ChannelSums'. -/
def channelSumsUptoCard : Claim7 := { stood := { row := channelSumsUptoRow, standIns := [], harness := (true, "60d6ab7a3705e4d389f432389cc0b257e1dd0c53e258f9a43d48679988e3a89d"), looks := false }, kinds := [], alts := [], laidByText := true, laidKinds := [.data, .data, .data, .widerDeep, .widerDeep, .funcs, .funcs, .funcs], laidTests := true, laidLooks := .later }
def ChannelSumsUptoCardSaid : Prop := Claim7.holds Tryz.pinned (.plain (OpenSpec.upto channelSumsSpec)) channelSumsUptoCard

/-- THE SECOND FORM's CARD OF 'crumplelaw02.ChannelTrue'. -/
def channelTrueUptoCard : Claim7 := { stood := { row := channelTrueUptoRow, standIns := [], harness := (true, "60d6ab7a3705e4d389f432389cc0b257e1dd0c53e258f9a43d48679988e3a89d"), looks := false }, kinds := [], alts := [], laidByText := true, laidKinds := [.data, .data, .data, .widerDeep, .widerDeep, .funcs, .funcs, .funcs], laidTests := true, laidLooks := .later }
def ChannelTrueUptoCardSaid : Prop := Claim7.holds Tryz.pinned (.plain (OpenSpec.upto channelTrueSpec)) channelTrueUptoCard

/-- THE SECOND FORM's CARD OF 'crumplelaw02.ChannelStays'. -/
def channelStaysUptoCard : Claim7 := { stood := { row := channelStaysUptoRow, standIns := [], harness := (true, "60d6ab7a3705e4d389f432389cc0b257e1dd0c53e258f9a43d48679988e3a89d"), looks := false }, kinds := [], alts := [], laidByText := true, laidKinds := [.data, .data, .data, .widerDeep, .widerDeep, .funcs, .funcs, .funcs], laidTests := true, laidLooks := .later }
def ChannelStaysUptoCardSaid : Prop := Claim7.holds Tryz.pinned (.plain (OpenSpec.upto channelStaysSpec)) channelStaysUptoCard

/-- THE SECOND FORM's CARD OF 'crumplelaw02.ChannelWithin'. -/
def channelWithinUptoCard : Claim7 := { stood := { row := channelWithinUptoRow, standIns := [], harness := (true, "60d6ab7a3705e4d389f432389cc0b257e1dd0c53e258f9a43d48679988e3a89d"), looks := false }, kinds := [], alts := [], laidByText := true, laidKinds := [.data, .data, .data, .widerDeep, .widerDeep, .funcs, .funcs, .funcs], laidTests := true, laidLooks := .later }
def ChannelWithinUptoCardSaid : Prop := Claim7.holds Tryz.pinned (.plain (OpenSpec.upto channelWithinSpec)) channelWithinUptoCard

/-- THE SECOND FORM's CARD OF 'crumplelaw02.ChannelStrings'. -/
def channelStringsUptoCard : Claim7 := { stood := { row := channelStringsUptoRow, standIns := [], harness := (true, "60d6ab7a3705e4d389f432389cc0b257e1dd0c53e258f9a43d48679988e3a89d"), looks := false }, kinds := [], alts := [], laidByText := true, laidKinds := [.data, .data, .data, .data, .widerDeep, .widerDeep, .funcs, .funcs, .funcs, .pinned], laidTests := true, laidLooks := .later }
def ChannelStringsUptoCardSaid : Prop := Claim7.holds Tryz.pinned (.plain (OpenSpec.upto channelStringsSpec)) channelStringsUptoCard

/-- THE SECOND FORM's CARD OF 'crumplelaw02.ChannelBack'. -/
def channelBackUptoCard : Claim7 := { stood := { row := channelBackUptoRow, standIns := [], harness := (true, "60d6ab7a3705e4d389f432389cc0b257e1dd0c53e258f9a43d48679988e3a89d"), looks := false }, kinds := [], alts := [], laidByText := true, laidKinds := [.data, .data, .data, .data, .widerDeep, .widerDeep, .funcs, .funcs, .funcs, .pinned], laidTests := true, laidLooks := .later }
def ChannelBackUptoCardSaid : Prop := Claim7.holds Tryz.pinned (.plain (OpenSpec.upto channelBackSpec)) channelBackUptoCard
end Rows
end Go.Proofs.YtbaedpfgjpkabaaGreatDoor
