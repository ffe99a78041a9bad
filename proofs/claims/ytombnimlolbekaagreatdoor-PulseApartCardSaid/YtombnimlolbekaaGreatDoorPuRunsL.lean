import Derived.Test.YtombnimlolbekaaGreatDoorPuRuns
import Derived.Test.YtombnimlolbekaaGreatDoorPuArgs
import Derived.Test.YtombnimlolbekaaGreatDoorPuG
namespace Go.Proofs.YtombnimlolbekaaGreatDoor
open Go Fw

theorem pairs_args {ps : List PVal} (h : HasTy (.sl (.st [.int .i64, .int .i64])) ps) : ∃ c : List (Int × Int), ps = [.sl (cI c) c.length] := by
 obtain ⟨rows, h1, h2, _⟩ := h
 obtain ⟨c, e1, e2, _⟩ := rows_pairs rows h2
 exact ⟨c, by rw [h1, e1, e2]⟩

end Go.Proofs.YtombnimlolbekaaGreatDoor
