/-
  DERIVED. GIVEN WITH THE SEED: THE CARDS: each row of YtfkacogfieiccaaGreatDoorRows.lean that lists a variable, with what it lists TIED to the program's text (the seventh form; the later family's looks); each row that meets fmt, with fmt's text TOLD by the authors' own Lean function (tested against real Go, not proved from fmt's source: count such statements apart). THE CARD IS WHAT COUNTS. Prove the row's statement (the work); the ties are given (YtfkacogfieiccaaGreatDoorTie.lean); close each card by the builder's one call (the guide's Derived/Test/ToyasCard.lean, 'card_holds'). Laid BY PROGRAM, IN A SANDBOX (cutbox-door.mjs). By AI agents, Wed Nov 11 2026. No macro, syntax, notation, axiom, sorry.
-/
import Derived.Test.YtfkacogfieiccaaGreatDoorRows
import GoSem.ClaimSeven
namespace Go.Proofs.YtfkacogfieiccaaGreatDoor
namespace Rows

/-- THE TIED CARD OF 'crumplelaw04.BarrierSpeeds'. -/
def barrierSpeedsCard : Claim7 := { stood := { row := barrierSpeedsRow, standIns := [], harness := (true, "6709bfe0bbc5d6b21f1f675d2b4f8666b56791778b1339ce46b3314c7da4bb30"), looks := false }, kinds := [], alts := [], laidByText := true, laidKinds := [.data, .data, .data, .data, .funcs, .wider, .pinned], laidTests := true, laidLooks := .later }
def BarrierSpeedsCardSaid : Prop := Claim7.holds Tryz.pinned (.plain (OpenSpec.ofChange barrierSpeedsSpec)) barrierSpeedsCard

/-- THE TIED CARD OF 'crumplelaw04.BarrierClasses'. -/
def barrierClassesCard : Claim7 := { stood := { row := barrierClassesRow, standIns := [], harness := (true, "6709bfe0bbc5d6b21f1f675d2b4f8666b56791778b1339ce46b3314c7da4bb30"), looks := false }, kinds := [], alts := [], laidByText := true, laidKinds := [.data, .data, .data, .data, .funcs, .wider, .pinned], laidTests := true, laidLooks := .later }
def BarrierClassesCardSaid : Prop := Claim7.holds Tryz.pinned (.plain (OpenSpec.ofChange barrierClassesSpec)) barrierClassesCard

/-- THE TIED CARD OF 'crumplelaw04.BarrierTows'. -/
def barrierTowsCard : Claim7 := { stood := { row := barrierTowsRow, standIns := [], harness := (true, "6709bfe0bbc5d6b21f1f675d2b4f8666b56791778b1339ce46b3314c7da4bb30"), looks := false }, kinds := [], alts := [], laidByText := true, laidKinds := [.data, .data, .data, .data, .funcs, .wider, .pinned], laidTests := true, laidLooks := .later }
def BarrierTowsCardSaid : Prop := Claim7.holds Tryz.pinned (.plain (OpenSpec.ofChange barrierTowsSpec)) barrierTowsCard

/-- THE TIED CARD OF 'crumplelaw04.BarrierTables'. -/
def barrierTablesCard : Claim7 := { stood := { row := barrierTablesRow, standIns := [], harness := (true, "6709bfe0bbc5d6b21f1f675d2b4f8666b56791778b1339ce46b3314c7da4bb30"), looks := false }, kinds := [], alts := [], laidByText := true, laidKinds := [.data, .data, .data, .data, .funcs, .wider, .pinned], laidTests := true, laidLooks := .later }
def BarrierTablesCardSaid : Prop := Claim7.holds Tryz.pinned (.plain (OpenSpec.ofChange barrierTablesSpec)) barrierTablesCard

/-- THE TIED CARD OF 'crumplelaw04.BarrierBalances'. -/
def barrierBalancesCard : Claim7 := { stood := { row := barrierBalancesRow, standIns := [], harness := (true, "6709bfe0bbc5d6b21f1f675d2b4f8666b56791778b1339ce46b3314c7da4bb30"), looks := false }, kinds := [], alts := [], laidByText := true, laidKinds := [.data, .data, .data, .data, .funcs, .wider, .pinned], laidTests := true, laidLooks := .later }
def BarrierBalancesCardSaid : Prop := Claim7.holds Tryz.pinned (.plain (OpenSpec.ofChange barrierBalancesSpec)) barrierBalancesCard

/-- THE TIED CARD OF 'crumplelaw04.BarrierWalls'. -/
def barrierWallsCard : Claim7 := { stood := { row := barrierWallsRow, standIns := [], harness := (true, "6709bfe0bbc5d6b21f1f675d2b4f8666b56791778b1339ce46b3314c7da4bb30"), looks := false }, kinds := [], alts := [], laidByText := true, laidKinds := [.data, .data, .data, .data, .funcs, .wider, .pinned], laidTests := true, laidLooks := .later }
def BarrierWallsCardSaid : Prop := Claim7.holds Tryz.pinned (.plain (OpenSpec.ofChange barrierWallsSpec)) barrierWallsCard

/-- THE TIED CARD OF 'crumplelaw04.BarrierStrings'. -/
def barrierStringsCard : Claim7 := { stood := { row := barrierStringsRow, standIns := [], harness := (true, "6709bfe0bbc5d6b21f1f675d2b4f8666b56791778b1339ce46b3314c7da4bb30"), looks := false }, kinds := [], alts := [], laidByText := true, laidKinds := [.data, .data, .data, .data, .funcs, .wider, .pinned], laidTests := true, laidLooks := .later }
def BarrierStringsCardSaid : Prop := Claim7.holds Tryz.pinned (.plain (OpenSpec.ofChange barrierStringsSpec)) barrierStringsCard

/-- THE TIED CARD OF 'crumplelaw04.BarrierStops'. -/
def barrierStopsCard : Claim7 := { stood := { row := barrierStopsRow, standIns := [], harness := (true, "6709bfe0bbc5d6b21f1f675d2b4f8666b56791778b1339ce46b3314c7da4bb30"), looks := false }, kinds := [], alts := [], laidByText := true, laidKinds := [.data, .data, .data, .data, .funcs, .wider, .pinned], laidTests := true, laidLooks := .later }
def BarrierStopsCardSaid : Prop := Claim7.holds Tryz.pinned (.plain (OpenSpec.ofChange barrierStopsSpec)) barrierStopsCard

/-- THE TIED CARD OF 'crumplelaw04.BarrierFarther'. -/
def barrierFartherCard : Claim7 := { stood := { row := barrierFartherRow, standIns := [], harness := (true, "6709bfe0bbc5d6b21f1f675d2b4f8666b56791778b1339ce46b3314c7da4bb30"), looks := false }, kinds := [], alts := [], laidByText := true, laidKinds := [.data, .data, .data, .data, .funcs, .wider, .pinned], laidTests := true, laidLooks := .later }
def BarrierFartherCardSaid : Prop := Claim7.holds Tryz.pinned (.plain (OpenSpec.ofChange barrierFartherSpec)) barrierFartherCard

/-- THE TIED CARD OF 'crumplelaw04.BarrierTrue'. -/
def barrierTrueCard : Claim7 := { stood := { row := barrierTrueRow, standIns := [], harness := (true, "6709bfe0bbc5d6b21f1f675d2b4f8666b56791778b1339ce46b3314c7da4bb30"), looks := false }, kinds := [], alts := [], laidByText := true, laidKinds := [.data, .data, .data, .data, .funcs, .wider, .pinned], laidTests := true, laidLooks := .later }
def BarrierTrueCardSaid : Prop := Claim7.holds Tryz.pinned (.plain (OpenSpec.ofChange barrierTrueSpec)) barrierTrueCard

/-- THE SECOND FORM's CARD OF 'crumplelaw04.BarrierSpeeds'. -/
def barrierSpeedsUptoCard : Claim7 := { stood := { row := barrierSpeedsUptoRow, standIns := [], harness := (true, "6709bfe0bbc5d6b21f1f675d2b4f8666b56791778b1339ce46b3314c7da4bb30"), looks := false }, kinds := [], alts := [], laidByText := true, laidKinds := [.data, .data, .data, .data, .funcs, .wider, .pinned], laidTests := true, laidLooks := .later }
def BarrierSpeedsUptoCardSaid : Prop := Claim7.holds Tryz.pinned (.plain (OpenSpec.upto barrierSpeedsSpec)) barrierSpeedsUptoCard

/-- THE SECOND FORM's CARD OF 'crumplelaw04.BarrierClasses'. -/
def barrierClassesUptoCard : Claim7 := { stood := { row := barrierClassesUptoRow, standIns := [], harness := (true, "6709bfe0bbc5d6b21f1f675d2b4f8666b56791778b1339ce46b3314c7da4bb30"), looks := false }, kinds := [], alts := [], laidByText := true, laidKinds := [.data, .data, .data, .data, .funcs, .wider, .pinned], laidTests := true, laidLooks := .later }
def BarrierClassesUptoCardSaid : Prop := Claim7.holds Tryz.pinned (.plain (OpenSpec.upto barrierClassesSpec)) barrierClassesUptoCard

/-- THE SECOND FORM's CARD OF 'crumplelaw04.BarrierTows'. -/
def barrierTowsUptoCard : Claim7 := { stood := { row := barrierTowsUptoRow, standIns := [], harness := (true, "6709bfe0bbc5d6b21f1f675d2b4f8666b56791778b1339ce46b3314c7da4bb30"), looks := false }, kinds := [], alts := [], laidByText := true, laidKinds := [.data, .data, .data, .data, .funcs, .wider, .pinned], laidTests := true, laidLooks := .later }
def BarrierTowsUptoCardSaid : Prop := Claim7.holds Tryz.pinned (.plain (OpenSpec.upto barrierTowsSpec)) barrierTowsUptoCard

/-- THE SECOND FORM's CARD OF 'crumplelaw04.BarrierTables'. -/
def barrierTablesUptoCard : Claim7 := { stood := { row := barrierTablesUptoRow, standIns := [], harness := (true, "6709bfe0bbc5d6b21f1f675d2b4f8666b56791778b1339ce46b3314c7da4bb30"), looks := false }, kinds := [], alts := [], laidByText := true, laidKinds := [.data, .data, .data, .data, .funcs, .wider, .pinned], laidTests := true, laidLooks := .later }
def BarrierTablesUptoCardSaid : Prop := Claim7.holds Tryz.pinned (.plain (OpenSpec.upto barrierTablesSpec)) barrierTablesUptoCard

/-- THE SECOND FORM's CARD OF 'crumplelaw04.BarrierBalances'. -/
def barrierBalancesUptoCard : Claim7 := { stood := { row := barrierBalancesUptoRow, standIns := [], harness := (true, "6709bfe0bbc5d6b21f1f675d2b4f8666b56791778b1339ce46b3314c7da4bb30"), looks := false }, kinds := [], alts := [], laidByText := true, laidKinds := [.data, .data, .data, .data, .funcs, .wider, .pinned], laidTests := true, laidLooks := .later }
def BarrierBalancesUptoCardSaid : Prop := Claim7.holds Tryz.pinned (.plain (OpenSpec.upto barrierBalancesSpec)) barrierBalancesUptoCard

/-- THE SECOND FORM's CARD OF 'crumplelaw04.BarrierWalls'. -/
def barrierWallsUptoCard : Claim7 := { stood := { row := barrierWallsUptoRow, standIns := [], harness := (true, "6709bfe0bbc5d6b21f1f675d2b4f8666b56791778b1339ce46b3314c7da4bb30"), looks := false }, kinds := [], alts := [], laidByText := true, laidKinds := [.data, .data, .data, .data, .funcs, .wider, .pinned], laidTests := true, laidLooks := .later }
def BarrierWallsUptoCardSaid : Prop := Claim7.holds Tryz.pinned (.plain (OpenSpec.upto barrierWallsSpec)) barrierWallsUptoCard

/-- THE SECOND FORM's CARD OF 'crumplelaw04.BarrierStrings'. -/
def barrierStringsUptoCard : Claim7 := { stood := { row := barrierStringsUptoRow, standIns := [], harness := (true, "6709bfe0bbc5d6b21f1f675d2b4f8666b56791778b1339ce46b3314c7da4bb30"), looks := false }, kinds := [], alts := [], laidByText := true, laidKinds := [.data, .data, .data, .data, .funcs, .wider, .pinned], laidTests := true, laidLooks := .later }
def BarrierStringsUptoCardSaid : Prop := Claim7.holds Tryz.pinned (.plain (OpenSpec.upto barrierStringsSpec)) barrierStringsUptoCard

/-- THE SECOND FORM's CARD OF 'crumplelaw04.BarrierStops'. -/
def barrierStopsUptoCard : Claim7 := { stood := { row := barrierStopsUptoRow, standIns := [], harness := (true, "6709bfe0bbc5d6b21f1f675d2b4f8666b56791778b1339ce46b3314c7da4bb30"), looks := false }, kinds := [], alts := [], laidByText := true, laidKinds := [.data, .data, .data, .data, .funcs, .wider, .pinned], laidTests := true, laidLooks := .later }
def BarrierStopsUptoCardSaid : Prop := Claim7.holds Tryz.pinned (.plain (OpenSpec.upto barrierStopsSpec)) barrierStopsUptoCard

/-- THE SECOND FORM's CARD OF 'crumplelaw04.BarrierFarther'. -/
def barrierFartherUptoCard : Claim7 := { stood := { row := barrierFartherUptoRow, standIns := [], harness := (true, "6709bfe0bbc5d6b21f1f675d2b4f8666b56791778b1339ce46b3314c7da4bb30"), looks := false }, kinds := [], alts := [], laidByText := true, laidKinds := [.data, .data, .data, .data, .funcs, .wider, .pinned], laidTests := true, laidLooks := .later }
def BarrierFartherUptoCardSaid : Prop := Claim7.holds Tryz.pinned (.plain (OpenSpec.upto barrierFartherSpec)) barrierFartherUptoCard

/-- THE SECOND FORM's CARD OF 'crumplelaw04.BarrierTrue'. -/
def barrierTrueUptoCard : Claim7 := { stood := { row := barrierTrueUptoRow, standIns := [], harness := (true, "6709bfe0bbc5d6b21f1f675d2b4f8666b56791778b1339ce46b3314c7da4bb30"), looks := false }, kinds := [], alts := [], laidByText := true, laidKinds := [.data, .data, .data, .data, .funcs, .wider, .pinned], laidTests := true, laidLooks := .later }
def BarrierTrueUptoCardSaid : Prop := Claim7.holds Tryz.pinned (.plain (OpenSpec.upto barrierTrueSpec)) barrierTrueUptoCard
end Rows
end Go.Proofs.YtfkacogfieiccaaGreatDoor
