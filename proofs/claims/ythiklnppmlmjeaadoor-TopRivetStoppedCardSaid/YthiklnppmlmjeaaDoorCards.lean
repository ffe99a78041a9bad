/-
  DERIVED. GIVEN WITH THE SEED: THE CARDS: each row of YthiklnppmlmjeaaDoorRows.lean that lists a variable, with what it lists TIED to the program's text (the seventh form; the later family's looks); each row that meets fmt, with fmt's text TOLD by the authors' own Lean function (tested against real Go, not proved from fmt's source: count such statements apart). THE CARD IS WHAT COUNTS. Prove the row's statement (the work); the ties are given (YthiklnppmlmjeaaDoorTie.lean); close each card by the builder's one call (the guide's Derived/Test/ToyasCard.lean, 'card_holds'). Laid BY PROGRAM, IN A SANDBOX (cutbox-door.mjs). By AI agents, Wed Nov 11 2026. No macro, syntax, notation, axiom, sorry.
-/
import Derived.Test.YthiklnppmlmjeaaDoorRows
import GoSem.ClaimSeven
namespace Go.Proofs.YthiklnppmlmjeaaDoor
namespace Rows

/-- THE TIED CARD OF 'crumpletop.TopRivetWaits'. -/
def topRivetWaitsCard : Claim7 := { stood := { row := topRivetWaitsRow, standIns := [], harness := (true, "6b48f381f36573881358c1f16aa088096b1276b0f687c38b666a6feea1fd370a"), looks := false }, kinds := [], alts := [], laidByText := true, laidKinds := [.funcsDeep, .funcs], laidTests := true, laidLooks := .later }
def TopRivetWaitsCardSaid : Prop := Claim7.holds Tryd.pinned (.plain (OpenSpec.ofChange topRivetWaitsSpec)) topRivetWaitsCard

/-- THE TIED CARD OF 'crumpletop.TopRivetStopped'. -/
def topRivetStoppedCard : Claim7 := { stood := { row := topRivetStoppedRow, standIns := [], harness := (true, "6b48f381f36573881358c1f16aa088096b1276b0f687c38b666a6feea1fd370a"), looks := false }, kinds := [], alts := [], laidByText := true, laidKinds := [.funcsDeep, .funcs], laidTests := true, laidLooks := .later }
def TopRivetStoppedCardSaid : Prop := Claim7.holds Tryd.pinned (.plain (OpenSpec.ofChange topRivetStoppedSpec)) topRivetStoppedCard

/-- THE TIED CARD OF 'crumpletop.TopRivetNever'. -/
def topRivetNeverCard : Claim7 := { stood := { row := topRivetNeverRow, standIns := [], harness := (true, "6b48f381f36573881358c1f16aa088096b1276b0f687c38b666a6feea1fd370a"), looks := false }, kinds := [], alts := [], laidByText := true, laidKinds := [.funcsDeep, .funcs], laidTests := true, laidLooks := .later }
def TopRivetNeverCardSaid : Prop := Claim7.holds Tryd.pinned (.plain (OpenSpec.ofChange topRivetNeverSpec)) topRivetNeverCard

/-- THE TIED CARD OF 'crumpletop.TopRivetSoaked'. -/
def topRivetSoakedCard : Claim7 := { stood := { row := topRivetSoakedRow, standIns := [], harness := (true, "6b48f381f36573881358c1f16aa088096b1276b0f687c38b666a6feea1fd370a"), looks := false }, kinds := [], alts := [], laidByText := true, laidKinds := [.funcsDeep, .funcs], laidTests := true, laidLooks := .later }
def TopRivetSoakedCardSaid : Prop := Claim7.holds Tryd.pinned (.plain (OpenSpec.ofChange topRivetSoakedSpec)) topRivetSoakedCard

/-- THE SECOND FORM's CARD OF 'crumpletop.TopRivetWaits'. -/
def topRivetWaitsUptoCard : Claim7 := { stood := { row := topRivetWaitsUptoRow, standIns := [], harness := (true, "6b48f381f36573881358c1f16aa088096b1276b0f687c38b666a6feea1fd370a"), looks := false }, kinds := [], alts := [], laidByText := true, laidKinds := [.funcsDeep, .funcs], laidTests := true, laidLooks := .later }
def TopRivetWaitsUptoCardSaid : Prop := Claim7.holds Tryd.pinned (.plain (OpenSpec.upto topRivetWaitsSpec)) topRivetWaitsUptoCard

/-- THE SECOND FORM's CARD OF 'crumpletop.TopRivetStopped'. -/
def topRivetStoppedUptoCard : Claim7 := { stood := { row := topRivetStoppedUptoRow, standIns := [], harness := (true, "6b48f381f36573881358c1f16aa088096b1276b0f687c38b666a6feea1fd370a"), looks := false }, kinds := [], alts := [], laidByText := true, laidKinds := [.funcsDeep, .funcs], laidTests := true, laidLooks := .later }
def TopRivetStoppedUptoCardSaid : Prop := Claim7.holds Tryd.pinned (.plain (OpenSpec.upto topRivetStoppedSpec)) topRivetStoppedUptoCard

/-- THE SECOND FORM's CARD OF 'crumpletop.TopRivetNever'. -/
def topRivetNeverUptoCard : Claim7 := { stood := { row := topRivetNeverUptoRow, standIns := [], harness := (true, "6b48f381f36573881358c1f16aa088096b1276b0f687c38b666a6feea1fd370a"), looks := false }, kinds := [], alts := [], laidByText := true, laidKinds := [.funcsDeep, .funcs], laidTests := true, laidLooks := .later }
def TopRivetNeverUptoCardSaid : Prop := Claim7.holds Tryd.pinned (.plain (OpenSpec.upto topRivetNeverSpec)) topRivetNeverUptoCard

/-- THE SECOND FORM's CARD OF 'crumpletop.TopRivetSoaked'. -/
def topRivetSoakedUptoCard : Claim7 := { stood := { row := topRivetSoakedUptoRow, standIns := [], harness := (true, "6b48f381f36573881358c1f16aa088096b1276b0f687c38b666a6feea1fd370a"), looks := false }, kinds := [], alts := [], laidByText := true, laidKinds := [.funcsDeep, .funcs], laidTests := true, laidLooks := .later }
def TopRivetSoakedUptoCardSaid : Prop := Claim7.holds Tryd.pinned (.plain (OpenSpec.upto topRivetSoakedSpec)) topRivetSoakedUptoCard
end Rows
end Go.Proofs.YthiklnppmlmjeaaDoor
