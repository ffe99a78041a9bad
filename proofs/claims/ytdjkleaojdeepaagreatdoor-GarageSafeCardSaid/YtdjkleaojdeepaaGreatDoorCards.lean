/-
  DERIVED. GIVEN WITH THE SEED: THE CARDS: each row of YtdjkleaojdeepaaGreatDoorRows.lean that lists a variable, with what it lists TIED to the program's text (the seventh form; the later family's looks); each row that meets fmt, with fmt's text TOLD by the authors' own Lean function (tested against real Go, not proved from fmt's source: count such statements apart). THE CARD IS WHAT COUNTS. Prove the row's statement (the work); the ties are given (YtdjkleaojdeepaaGreatDoorTie.lean); close each card by the builder's one call (the guide's Derived/Test/ToyasCard.lean, 'card_holds'). Laid BY PROGRAM, IN A SANDBOX (cutbox-door.mjs). By AI agents, Wed Nov 11 2026. No macro, syntax, notation, axiom, sorry.
-/
import Derived.Test.YtdjkleaojdeepaaGreatDoorRows
import GoSem.ClaimSeven
namespace Go.Proofs.YtdjkleaojdeepaaGreatDoor
namespace Rows

/-- THE TIED CARD OF 'crumplelaw09.GarageReasons'. -/
def garageReasonsCard : Claim7 := { stood := { row := garageReasonsRow, standIns := [], harness := (true, "9f6568706374681a00bf612260e588f9af86a50ce1b4cbebf59cb93707db0b3e"), looks := false }, kinds := [], alts := [], laidByText := true, laidKinds := [.data, .data, .data, .data, .funcsDeep, .funcs, .pinned], laidTests := true, laidLooks := .later }
def GarageReasonsCardSaid : Prop := Claim7.holds Tryz.pinned (.plain (OpenSpec.ofChange garageReasonsSpec)) garageReasonsCard

/-- THE TIED CARD OF 'crumplelaw09.GarageDone'. -/
def garageDoneCard : Claim7 := { stood := { row := garageDoneRow, standIns := [], harness := (true, "9f6568706374681a00bf612260e588f9af86a50ce1b4cbebf59cb93707db0b3e"), looks := false }, kinds := [], alts := [], laidByText := true, laidKinds := [.data, .data, .data, .data, .funcsDeep, .funcs, .pinned], laidTests := true, laidLooks := .later }
def GarageDoneCardSaid : Prop := Claim7.holds Tryz.pinned (.plain (OpenSpec.ofChange garageDoneSpec)) garageDoneCard

/-- THE TIED CARD OF 'crumplelaw09.GarageMoves'. -/
def garageMovesCard : Claim7 := { stood := { row := garageMovesRow, standIns := [], harness := (true, "9f6568706374681a00bf612260e588f9af86a50ce1b4cbebf59cb93707db0b3e"), looks := false }, kinds := [], alts := [], laidByText := true, laidKinds := [.data, .data, .data, .data, .funcsDeep, .funcs, .pinned], laidTests := true, laidLooks := .later }
def GarageMovesCardSaid : Prop := Claim7.holds Tryz.pinned (.plain (OpenSpec.ofChange garageMovesSpec)) garageMovesCard

/-- THE TIED CARD OF 'crumplelaw09.GarageJobs'. -/
def garageJobsCard : Claim7 := { stood := { row := garageJobsRow, standIns := [], harness := (true, "9f6568706374681a00bf612260e588f9af86a50ce1b4cbebf59cb93707db0b3e"), looks := false }, kinds := [], alts := [], laidByText := true, laidKinds := [.data, .data, .data, .data, .funcsDeep, .funcs, .pinned], laidTests := true, laidLooks := .later }
def GarageJobsCardSaid : Prop := Claim7.holds Tryz.pinned (.plain (OpenSpec.ofChange garageJobsSpec)) garageJobsCard

/-- THE TIED CARD OF 'crumplelaw09.GaragePlans'. -/
def garagePlansCard : Claim7 := { stood := { row := garagePlansRow, standIns := [], harness := (true, "9f6568706374681a00bf612260e588f9af86a50ce1b4cbebf59cb93707db0b3e"), looks := false }, kinds := [], alts := [], laidByText := true, laidKinds := [.data, .data, .data, .data, .funcsDeep, .funcs, .pinned], laidTests := true, laidLooks := .later }
def GaragePlansCardSaid : Prop := Claim7.holds Tryz.pinned (.plain (OpenSpec.ofChange garagePlansSpec)) garagePlansCard

/-- THE TIED CARD OF 'crumplelaw09.GarageStrings'. -/
def garageStringsCard : Claim7 := { stood := { row := garageStringsRow, standIns := [], harness := (true, "9f6568706374681a00bf612260e588f9af86a50ce1b4cbebf59cb93707db0b3e"), looks := false }, kinds := [], alts := [], laidByText := true, laidKinds := [.data, .data, .data, .data, .funcsDeep, .funcs, .pinned], laidTests := true, laidLooks := .later }
def GarageStringsCardSaid : Prop := Claim7.holds Tryz.pinned (.plain (OpenSpec.ofChange garageStringsSpec)) garageStringsCard

/-- THE TIED CARD OF 'crumplelaw09.GarageSafe'. -/
def garageSafeCard : Claim7 := { stood := { row := garageSafeRow, standIns := [], harness := (true, "9f6568706374681a00bf612260e588f9af86a50ce1b4cbebf59cb93707db0b3e"), looks := false }, kinds := [], alts := [], laidByText := true, laidKinds := [.data, .data, .data, .data, .funcsDeep, .funcs, .pinned], laidTests := true, laidLooks := .later }
def GarageSafeCardSaid : Prop := Claim7.holds Tryz.pinned (.plain (OpenSpec.ofChange garageSafeSpec)) garageSafeCard

/-- THE TIED CARD OF 'crumplelaw09.GarageWaits'. -/
def garageWaitsCard : Claim7 := { stood := { row := garageWaitsRow, standIns := [], harness := (true, "9f6568706374681a00bf612260e588f9af86a50ce1b4cbebf59cb93707db0b3e"), looks := false }, kinds := [], alts := [], laidByText := true, laidKinds := [.data, .data, .data, .data, .funcsDeep, .funcs, .pinned], laidTests := true, laidLooks := .later }
def GarageWaitsCardSaid : Prop := Claim7.holds Tryz.pinned (.plain (OpenSpec.ofChange garageWaitsSpec)) garageWaitsCard

/-- THE TIED CARD OF 'crumplelaw09.GarageBest'. -/
def garageBestCard : Claim7 := { stood := { row := garageBestRow, standIns := [], harness := (true, "9f6568706374681a00bf612260e588f9af86a50ce1b4cbebf59cb93707db0b3e"), looks := false }, kinds := [], alts := [], laidByText := true, laidKinds := [.data, .data, .data, .data, .funcsDeep, .funcs, .pinned], laidTests := true, laidLooks := .later }
def GarageBestCardSaid : Prop := Claim7.holds Tryz.pinned (.plain (OpenSpec.ofChange garageBestSpec)) garageBestCard

/-- THE TIED CARD OF 'crumplelaw09.GarageBack'. -/
def garageBackCard : Claim7 := { stood := { row := garageBackRow, standIns := [], harness := (true, "9f6568706374681a00bf612260e588f9af86a50ce1b4cbebf59cb93707db0b3e"), looks := false }, kinds := [], alts := [], laidByText := true, laidKinds := [.data, .data, .data, .data, .funcsDeep, .funcs, .pinned], laidTests := true, laidLooks := .later }
def GarageBackCardSaid : Prop := Claim7.holds Tryz.pinned (.plain (OpenSpec.ofChange garageBackSpec)) garageBackCard

/-- THE TIED CARD OF 'crumplelaw09.GarageRuns'. -/
def garageRunsCard : Claim7 := { stood := { row := garageRunsRow, standIns := [], harness := (true, "9f6568706374681a00bf612260e588f9af86a50ce1b4cbebf59cb93707db0b3e"), looks := false }, kinds := [], alts := [], laidByText := true, laidKinds := [.data, .data, .data, .data, .funcsDeep, .funcs, .pinned], laidTests := true, laidLooks := .later }
def GarageRunsCardSaid : Prop := Claim7.holds Tryz.pinned (.plain (OpenSpec.ofChange garageRunsSpec)) garageRunsCard

/-- THE TIED CARD OF 'crumplelaw09.GarageHalls'. -/
def garageHallsCard : Claim7 := { stood := { row := garageHallsRow, standIns := [], harness := (true, "9f6568706374681a00bf612260e588f9af86a50ce1b4cbebf59cb93707db0b3e"), looks := false }, kinds := [], alts := [], laidByText := true, laidKinds := [.data, .data, .data, .data, .funcsDeep, .funcs, .pinned], laidTests := true, laidLooks := .later }
def GarageHallsCardSaid : Prop := Claim7.holds Tryz.pinned (.plain (OpenSpec.ofChange garageHallsSpec)) garageHallsCard

/-- THE SECOND FORM's CARD OF 'crumplelaw09.GarageReasons'. -/
def garageReasonsUptoCard : Claim7 := { stood := { row := garageReasonsUptoRow, standIns := [], harness := (true, "9f6568706374681a00bf612260e588f9af86a50ce1b4cbebf59cb93707db0b3e"), looks := false }, kinds := [], alts := [], laidByText := true, laidKinds := [.data, .data, .data, .data, .funcsDeep, .funcs, .pinned], laidTests := true, laidLooks := .later }
def GarageReasonsUptoCardSaid : Prop := Claim7.holds Tryz.pinned (.plain (OpenSpec.upto garageReasonsSpec)) garageReasonsUptoCard

/-- THE SECOND FORM's CARD OF 'crumplelaw09.GarageDone'. -/
def garageDoneUptoCard : Claim7 := { stood := { row := garageDoneUptoRow, standIns := [], harness := (true, "9f6568706374681a00bf612260e588f9af86a50ce1b4cbebf59cb93707db0b3e"), looks := false }, kinds := [], alts := [], laidByText := true, laidKinds := [.data, .data, .data, .data, .funcsDeep, .funcs, .pinned], laidTests := true, laidLooks := .later }
def GarageDoneUptoCardSaid : Prop := Claim7.holds Tryz.pinned (.plain (OpenSpec.upto garageDoneSpec)) garageDoneUptoCard

/-- THE SECOND FORM's CARD OF 'crumplelaw09.GarageMoves'. -/
def garageMovesUptoCard : Claim7 := { stood := { row := garageMovesUptoRow, standIns := [], harness := (true, "9f6568706374681a00bf612260e588f9af86a50ce1b4cbebf59cb93707db0b3e"), looks := false }, kinds := [], alts := [], laidByText := true, laidKinds := [.data, .data, .data, .data, .funcsDeep, .funcs, .pinned], laidTests := true, laidLooks := .later }
def GarageMovesUptoCardSaid : Prop := Claim7.holds Tryz.pinned (.plain (OpenSpec.upto garageMovesSpec)) garageMovesUptoCard

/-- THE SECOND FORM's CARD OF 'crumplelaw09.GarageJobs'. -/
def garageJobsUptoCard : Claim7 := { stood := { row := garageJobsUptoRow, standIns := [], harness := (true, "9f6568706374681a00bf612260e588f9af86a50ce1b4cbebf59cb93707db0b3e"), looks := false }, kinds := [], alts := [], laidByText := true, laidKinds := [.data, .data, .data, .data, .funcsDeep, .funcs, .pinned], laidTests := true, laidLooks := .later }
def GarageJobsUptoCardSaid : Prop := Claim7.holds Tryz.pinned (.plain (OpenSpec.upto garageJobsSpec)) garageJobsUptoCard

/-- THE SECOND FORM's CARD OF 'crumplelaw09.GaragePlans'. -/
def garagePlansUptoCard : Claim7 := { stood := { row := garagePlansUptoRow, standIns := [], harness := (true, "9f6568706374681a00bf612260e588f9af86a50ce1b4cbebf59cb93707db0b3e"), looks := false }, kinds := [], alts := [], laidByText := true, laidKinds := [.data, .data, .data, .data, .funcsDeep, .funcs, .pinned], laidTests := true, laidLooks := .later }
def GaragePlansUptoCardSaid : Prop := Claim7.holds Tryz.pinned (.plain (OpenSpec.upto garagePlansSpec)) garagePlansUptoCard

/-- THE SECOND FORM's CARD OF 'crumplelaw09.GarageStrings'. -/
def garageStringsUptoCard : Claim7 := { stood := { row := garageStringsUptoRow, standIns := [], harness := (true, "9f6568706374681a00bf612260e588f9af86a50ce1b4cbebf59cb93707db0b3e"), looks := false }, kinds := [], alts := [], laidByText := true, laidKinds := [.data, .data, .data, .data, .funcsDeep, .funcs, .pinned], laidTests := true, laidLooks := .later }
def GarageStringsUptoCardSaid : Prop := Claim7.holds Tryz.pinned (.plain (OpenSpec.upto garageStringsSpec)) garageStringsUptoCard

/-- THE SECOND FORM's CARD OF 'crumplelaw09.GarageSafe'. -/
def garageSafeUptoCard : Claim7 := { stood := { row := garageSafeUptoRow, standIns := [], harness := (true, "9f6568706374681a00bf612260e588f9af86a50ce1b4cbebf59cb93707db0b3e"), looks := false }, kinds := [], alts := [], laidByText := true, laidKinds := [.data, .data, .data, .data, .funcsDeep, .funcs, .pinned], laidTests := true, laidLooks := .later }
def GarageSafeUptoCardSaid : Prop := Claim7.holds Tryz.pinned (.plain (OpenSpec.upto garageSafeSpec)) garageSafeUptoCard

/-- THE SECOND FORM's CARD OF 'crumplelaw09.GarageWaits'. -/
def garageWaitsUptoCard : Claim7 := { stood := { row := garageWaitsUptoRow, standIns := [], harness := (true, "9f6568706374681a00bf612260e588f9af86a50ce1b4cbebf59cb93707db0b3e"), looks := false }, kinds := [], alts := [], laidByText := true, laidKinds := [.data, .data, .data, .data, .funcsDeep, .funcs, .pinned], laidTests := true, laidLooks := .later }
def GarageWaitsUptoCardSaid : Prop := Claim7.holds Tryz.pinned (.plain (OpenSpec.upto garageWaitsSpec)) garageWaitsUptoCard

/-- THE SECOND FORM's CARD OF 'crumplelaw09.GarageBest'. -/
def garageBestUptoCard : Claim7 := { stood := { row := garageBestUptoRow, standIns := [], harness := (true, "9f6568706374681a00bf612260e588f9af86a50ce1b4cbebf59cb93707db0b3e"), looks := false }, kinds := [], alts := [], laidByText := true, laidKinds := [.data, .data, .data, .data, .funcsDeep, .funcs, .pinned], laidTests := true, laidLooks := .later }
def GarageBestUptoCardSaid : Prop := Claim7.holds Tryz.pinned (.plain (OpenSpec.upto garageBestSpec)) garageBestUptoCard

/-- THE SECOND FORM's CARD OF 'crumplelaw09.GarageBack'. -/
def garageBackUptoCard : Claim7 := { stood := { row := garageBackUptoRow, standIns := [], harness := (true, "9f6568706374681a00bf612260e588f9af86a50ce1b4cbebf59cb93707db0b3e"), looks := false }, kinds := [], alts := [], laidByText := true, laidKinds := [.data, .data, .data, .data, .funcsDeep, .funcs, .pinned], laidTests := true, laidLooks := .later }
def GarageBackUptoCardSaid : Prop := Claim7.holds Tryz.pinned (.plain (OpenSpec.upto garageBackSpec)) garageBackUptoCard

/-- THE SECOND FORM's CARD OF 'crumplelaw09.GarageRuns'. -/
def garageRunsUptoCard : Claim7 := { stood := { row := garageRunsUptoRow, standIns := [], harness := (true, "9f6568706374681a00bf612260e588f9af86a50ce1b4cbebf59cb93707db0b3e"), looks := false }, kinds := [], alts := [], laidByText := true, laidKinds := [.data, .data, .data, .data, .funcsDeep, .funcs, .pinned], laidTests := true, laidLooks := .later }
def GarageRunsUptoCardSaid : Prop := Claim7.holds Tryz.pinned (.plain (OpenSpec.upto garageRunsSpec)) garageRunsUptoCard

/-- THE SECOND FORM's CARD OF 'crumplelaw09.GarageHalls'. -/
def garageHallsUptoCard : Claim7 := { stood := { row := garageHallsUptoRow, standIns := [], harness := (true, "9f6568706374681a00bf612260e588f9af86a50ce1b4cbebf59cb93707db0b3e"), looks := false }, kinds := [], alts := [], laidByText := true, laidKinds := [.data, .data, .data, .data, .funcsDeep, .funcs, .pinned], laidTests := true, laidLooks := .later }
def GarageHallsUptoCardSaid : Prop := Claim7.holds Tryz.pinned (.plain (OpenSpec.upto garageHallsSpec)) garageHallsUptoCard
end Rows
end Go.Proofs.YtdjkleaojdeepaaGreatDoor
