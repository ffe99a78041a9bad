/-
  DERIVED. GIVEN WITH THE SEED: THE PROGRAM's TIES (one call each: nine closed facts by the kernel) AND EACH ROW's TIE, after the 31st guide's Derived/Test/Toyas{Tie, Card}.lean. No idea stands in it: it is a product of the set-up. Laid BY PROGRAM, IN A SANDBOX (cutbox-door.mjs). By AI agents, Wed Nov 11 2026. No macro, syntax, notation, axiom, sorry.
-/
import Derived.Test.YthiklnppmlmjeaaDoorRows
import Derived.LaidByTextLater
import Derived.SevenTiedAt
import Derived.LaidSub
import Derived.LaidOnce
namespace Go.Proofs.YthiklnppmlmjeaaDoor
open Go
set_option maxRecDepth 100000
theorem seatTie1 : Tryd.prog.laidByTextLater [("crumple/garage.kinds", Rows.laid_crumple_garage_kinds), ("crumple/garage.all", Rows.laid_crumple_garage_all)] [.funcsDeep, .funcs] true :=
  Program.laidByTextLater_by_one 36 8 2 (by kernel_rfl) (by kernel_rfl) (by kernel_rfl) (by kernel_rfl) (by kernel_rfl) (by kernel_rfl) (fun _ _ => by kernel_rfl)
theorem noOwnUnsafe : Tryd.pinned.checked.prog.headLifts.contains "ownunsafe" = false := by kernel_rfl
theorem tie : Tryd.prog.laidByTextLater [("crumple/garage.kinds", Rows.laid_crumple_garage_kinds), ("crumple/garage.all", Rows.laid_crumple_garage_all)] [.funcsDeep, .funcs] true :=
  Program.laidByTextLater.sub seatTie1 ["crumple/garage.kinds", "crumple/garage.all"] (by kernel_rfl) (by kernel_rfl)
theorem topRivetWaits_row_tie : Rows.topRivetWaitsRow.laidByTextAt .later Tryd.pinned [.funcsDeep, .funcs] true :=
  OpenClaim.laidByTextAt_later rfl rfl tie noOwnUnsafe
theorem topRivetStopped_row_tie : Rows.topRivetStoppedRow.laidByTextAt .later Tryd.pinned [.funcsDeep, .funcs] true :=
  OpenClaim.laidByTextAt_later rfl rfl tie noOwnUnsafe
theorem topRivetNever_row_tie : Rows.topRivetNeverRow.laidByTextAt .later Tryd.pinned [.funcsDeep, .funcs] true :=
  OpenClaim.laidByTextAt_later rfl rfl tie noOwnUnsafe
theorem topRivetSoaked_row_tie : Rows.topRivetSoakedRow.laidByTextAt .later Tryd.pinned [.funcsDeep, .funcs] true :=
  OpenClaim.laidByTextAt_later rfl rfl tie noOwnUnsafe
theorem topRivetWaitsUpto_row_tie : Rows.topRivetWaitsUptoRow.laidByTextAt .later Tryd.pinned [.funcsDeep, .funcs] true :=
  OpenClaim.laidByTextAt_later rfl rfl tie noOwnUnsafe
theorem topRivetStoppedUpto_row_tie : Rows.topRivetStoppedUptoRow.laidByTextAt .later Tryd.pinned [.funcsDeep, .funcs] true :=
  OpenClaim.laidByTextAt_later rfl rfl tie noOwnUnsafe
theorem topRivetNeverUpto_row_tie : Rows.topRivetNeverUptoRow.laidByTextAt .later Tryd.pinned [.funcsDeep, .funcs] true :=
  OpenClaim.laidByTextAt_later rfl rfl tie noOwnUnsafe
theorem topRivetSoakedUpto_row_tie : Rows.topRivetSoakedUptoRow.laidByTextAt .later Tryd.pinned [.funcsDeep, .funcs] true :=
  OpenClaim.laidByTextAt_later rfl rfl tie noOwnUnsafe
end Go.Proofs.YthiklnppmlmjeaaDoor
