/-
  DERIVED. GIVEN WITH THE SEED: THE CARDS: each row of YtombnimlolbekaaGreatDoorRows.lean that lists a variable, with what it lists TIED to the program's text (the seventh form; the later family's looks); each row that meets fmt, with fmt's text TOLD by the authors' own Lean function (tested against real Go, not proved from fmt's source: count such statements apart). THE CARD IS WHAT COUNTS. Prove the row's statement (the work); the ties are given (YtombnimlolbekaaGreatDoorTie.lean); close each card by the builder's one call (the guide's Derived/Test/ToyasCard.lean, 'card_holds'). Laid BY PROGRAM, IN A SANDBOX (cutbox-door.mjs). By AI agents, Wed Nov 11 2026. No macro, syntax, notation, axiom, sorry.
-/
import Derived.Test.YtombnimlolbekaaGreatDoorRows
import GoSem.ClaimSeven
namespace Go.Proofs.YtombnimlolbekaaGreatDoor
namespace Rows

/-- THE TIED CARD OF 'crumplelaw08.PulseRuns'. -/
def pulseRunsCard : Claim7 := { stood := { row := pulseRunsRow, standIns := [], harness := (true, "7a860128f4be0c306efa7928fc6875aa89492a6cd5710984e0f22598e12943d9"), looks := false }, kinds := [], alts := [], laidByText := true, laidKinds := [.data, .data, .data, .data, .data, .pinned], laidTests := true, laidLooks := .later }
def PulseRunsCardSaid : Prop := Claim7.holds Tryz.pinned (.plain (OpenSpec.ofChange pulseRunsSpec)) pulseRunsCard

/-- THE TIED CARD OF 'crumplelaw08.PulseLanes'. -/
def pulseLanesCard : Claim7 := { stood := { row := pulseLanesRow, standIns := [], harness := (true, "7a860128f4be0c306efa7928fc6875aa89492a6cd5710984e0f22598e12943d9"), looks := false }, kinds := [], alts := [], laidByText := true, laidKinds := [.data, .data, .data, .data, .data, .pinned], laidTests := true, laidLooks := .later }
def PulseLanesCardSaid : Prop := Claim7.holds Tryz.pinned (.plain (OpenSpec.ofChange pulseLanesSpec)) pulseLanesCard

/-- THE TIED CARD OF 'crumplelaw08.PulseLearns'. -/
def pulseLearnsCard : Claim7 := { stood := { row := pulseLearnsRow, standIns := [], harness := (true, "7a860128f4be0c306efa7928fc6875aa89492a6cd5710984e0f22598e12943d9"), looks := false }, kinds := [], alts := [], laidByText := true, laidKinds := [.data, .data, .data, .data, .data, .pinned], laidTests := true, laidLooks := .later }
def PulseLearnsCardSaid : Prop := Claim7.holds Tryz.pinned (.plain (OpenSpec.ofChange pulseLearnsSpec)) pulseLearnsCard

/-- THE TIED CARD OF 'crumplelaw08.PulseSpreads'. -/
def pulseSpreadsCard : Claim7 := { stood := { row := pulseSpreadsRow, standIns := [], harness := (true, "7a860128f4be0c306efa7928fc6875aa89492a6cd5710984e0f22598e12943d9"), looks := false }, kinds := [], alts := [], laidByText := true, laidKinds := [.data, .data, .data, .data, .data, .pinned], laidTests := true, laidLooks := .later }
def PulseSpreadsCardSaid : Prop := Claim7.holds Tryz.pinned (.plain (OpenSpec.ofChange pulseSpreadsSpec)) pulseSpreadsCard

/-- THE TIED CARD OF 'crumplelaw08.PulseStrings'. -/
def pulseStringsCard : Claim7 := { stood := { row := pulseStringsRow, standIns := [], harness := (true, "7a860128f4be0c306efa7928fc6875aa89492a6cd5710984e0f22598e12943d9"), looks := false }, kinds := [], alts := [], laidByText := true, laidKinds := [.data, .data, .data, .data, .data, .pinned], laidTests := true, laidLooks := .later }
def PulseStringsCardSaid : Prop := Claim7.holds Tryz.pinned (.plain (OpenSpec.ofChange pulseStringsSpec)) pulseStringsCard

/-- THE TIED CARD OF 'crumplelaw08.PulseBelow'. -/
def pulseBelowCard : Claim7 := { stood := { row := pulseBelowRow, standIns := [], harness := (true, "7a860128f4be0c306efa7928fc6875aa89492a6cd5710984e0f22598e12943d9"), looks := false }, kinds := [], alts := [], laidByText := true, laidKinds := [.data, .data, .data, .data, .data, .pinned], laidTests := true, laidLooks := .later }
def PulseBelowCardSaid : Prop := Claim7.holds Tryz.pinned (.plain (OpenSpec.ofChange pulseBelowSpec)) pulseBelowCard

/-- THE TIED CARD OF 'crumplelaw08.PulseApart'. -/
def pulseApartCard : Claim7 := { stood := { row := pulseApartRow, standIns := [], harness := (true, "7a860128f4be0c306efa7928fc6875aa89492a6cd5710984e0f22598e12943d9"), looks := false }, kinds := [], alts := [], laidByText := true, laidKinds := [.data, .data, .data, .data, .data, .pinned], laidTests := true, laidLooks := .later }
def PulseApartCardSaid : Prop := Claim7.holds Tryz.pinned (.plain (OpenSpec.ofChange pulseApartSpec)) pulseApartCard

/-- THE TIED CARD OF 'crumplelaw08.PulsePacks'. -/
def pulsePacksCard : Claim7 := { stood := { row := pulsePacksRow, standIns := [], harness := (true, "7a860128f4be0c306efa7928fc6875aa89492a6cd5710984e0f22598e12943d9"), looks := false }, kinds := [], alts := [], laidByText := true, laidKinds := [.data, .data, .data, .data, .data, .pinned], laidTests := true, laidLooks := .later }
def PulsePacksCardSaid : Prop := Claim7.holds Tryz.pinned (.plain (OpenSpec.ofChange pulsePacksSpec)) pulsePacksCard

/-- THE TIED CARD OF 'crumplelaw08.PulseChosen'. -/
def pulseChosenCard : Claim7 := { stood := { row := pulseChosenRow, standIns := [], harness := (true, "7a860128f4be0c306efa7928fc6875aa89492a6cd5710984e0f22598e12943d9"), looks := false }, kinds := [], alts := [], laidByText := true, laidKinds := [.data, .data, .data, .data, .data, .pinned], laidTests := true, laidLooks := .later }
def PulseChosenCardSaid : Prop := Claim7.holds Tryz.pinned (.plain (OpenSpec.ofChange pulseChosenSpec)) pulseChosenCard

/-- THE SECOND FORM's CARD OF 'crumplelaw08.PulseRuns'. -/
def pulseRunsUptoCard : Claim7 := { stood := { row := pulseRunsUptoRow, standIns := [], harness := (true, "7a860128f4be0c306efa7928fc6875aa89492a6cd5710984e0f22598e12943d9"), looks := false }, kinds := [], alts := [], laidByText := true, laidKinds := [.data, .data, .data, .data, .data, .pinned], laidTests := true, laidLooks := .later }
def PulseRunsUptoCardSaid : Prop := Claim7.holds Tryz.pinned (.plain (OpenSpec.upto pulseRunsSpec)) pulseRunsUptoCard

/-- THE SECOND FORM's CARD OF 'crumplelaw08.PulseLanes'. -/
def pulseLanesUptoCard : Claim7 := { stood := { row := pulseLanesUptoRow, standIns := [], harness := (true, "7a860128f4be0c306efa7928fc6875aa89492a6cd5710984e0f22598e12943d9"), looks := false }, kinds := [], alts := [], laidByText := true, laidKinds := [.data, .data, .data, .data, .data, .pinned], laidTests := true, laidLooks := .later }
def PulseLanesUptoCardSaid : Prop := Claim7.holds Tryz.pinned (.plain (OpenSpec.upto pulseLanesSpec)) pulseLanesUptoCard

/-- THE SECOND FORM's CARD OF 'crumplelaw08.PulseLearns'. -/
def pulseLearnsUptoCard : Claim7 := { stood := { row := pulseLearnsUptoRow, standIns := [], harness := (true, "7a860128f4be0c306efa7928fc6875aa89492a6cd5710984e0f22598e12943d9"), looks := false }, kinds := [], alts := [], laidByText := true, laidKinds := [.data, .data, .data, .data, .data, .pinned], laidTests := true, laidLooks := .later }
def PulseLearnsUptoCardSaid : Prop := Claim7.holds Tryz.pinned (.plain (OpenSpec.upto pulseLearnsSpec)) pulseLearnsUptoCard

/-- THE SECOND FORM's CARD OF 'crumplelaw08.PulseSpreads'. -/
def pulseSpreadsUptoCard : Claim7 := { stood := { row := pulseSpreadsUptoRow, standIns := [], harness := (true, "7a860128f4be0c306efa7928fc6875aa89492a6cd5710984e0f22598e12943d9"), looks := false }, kinds := [], alts := [], laidByText := true, laidKinds := [.data, .data, .data, .data, .data, .pinned], laidTests := true, laidLooks := .later }
def PulseSpreadsUptoCardSaid : Prop := Claim7.holds Tryz.pinned (.plain (OpenSpec.upto pulseSpreadsSpec)) pulseSpreadsUptoCard

/-- THE SECOND FORM's CARD OF 'crumplelaw08.PulseStrings'. -/
def pulseStringsUptoCard : Claim7 := { stood := { row := pulseStringsUptoRow, standIns := [], harness := (true, "7a860128f4be0c306efa7928fc6875aa89492a6cd5710984e0f22598e12943d9"), looks := false }, kinds := [], alts := [], laidByText := true, laidKinds := [.data, .data, .data, .data, .data, .pinned], laidTests := true, laidLooks := .later }
def PulseStringsUptoCardSaid : Prop := Claim7.holds Tryz.pinned (.plain (OpenSpec.upto pulseStringsSpec)) pulseStringsUptoCard

/-- THE SECOND FORM's CARD OF 'crumplelaw08.PulseBelow'. -/
def pulseBelowUptoCard : Claim7 := { stood := { row := pulseBelowUptoRow, standIns := [], harness := (true, "7a860128f4be0c306efa7928fc6875aa89492a6cd5710984e0f22598e12943d9"), looks := false }, kinds := [], alts := [], laidByText := true, laidKinds := [.data, .data, .data, .data, .data, .pinned], laidTests := true, laidLooks := .later }
def PulseBelowUptoCardSaid : Prop := Claim7.holds Tryz.pinned (.plain (OpenSpec.upto pulseBelowSpec)) pulseBelowUptoCard

/-- THE SECOND FORM's CARD OF 'crumplelaw08.PulseApart'. -/
def pulseApartUptoCard : Claim7 := { stood := { row := pulseApartUptoRow, standIns := [], harness := (true, "7a860128f4be0c306efa7928fc6875aa89492a6cd5710984e0f22598e12943d9"), looks := false }, kinds := [], alts := [], laidByText := true, laidKinds := [.data, .data, .data, .data, .data, .pinned], laidTests := true, laidLooks := .later }
def PulseApartUptoCardSaid : Prop := Claim7.holds Tryz.pinned (.plain (OpenSpec.upto pulseApartSpec)) pulseApartUptoCard

/-- THE SECOND FORM's CARD OF 'crumplelaw08.PulsePacks'. -/
def pulsePacksUptoCard : Claim7 := { stood := { row := pulsePacksUptoRow, standIns := [], harness := (true, "7a860128f4be0c306efa7928fc6875aa89492a6cd5710984e0f22598e12943d9"), looks := false }, kinds := [], alts := [], laidByText := true, laidKinds := [.data, .data, .data, .data, .data, .pinned], laidTests := true, laidLooks := .later }
def PulsePacksUptoCardSaid : Prop := Claim7.holds Tryz.pinned (.plain (OpenSpec.upto pulsePacksSpec)) pulsePacksUptoCard

/-- THE SECOND FORM's CARD OF 'crumplelaw08.PulseChosen'. -/
def pulseChosenUptoCard : Claim7 := { stood := { row := pulseChosenUptoRow, standIns := [], harness := (true, "7a860128f4be0c306efa7928fc6875aa89492a6cd5710984e0f22598e12943d9"), looks := false }, kinds := [], alts := [], laidByText := true, laidKinds := [.data, .data, .data, .data, .data, .pinned], laidTests := true, laidLooks := .later }
def PulseChosenUptoCardSaid : Prop := Claim7.holds Tryz.pinned (.plain (OpenSpec.upto pulseChosenSpec)) pulseChosenUptoCard
end Rows
end Go.Proofs.YtombnimlolbekaaGreatDoor
