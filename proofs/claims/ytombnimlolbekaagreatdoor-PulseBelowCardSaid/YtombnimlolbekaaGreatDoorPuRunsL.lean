import Derived.Test.YtombnimlolbekaaGreatDoorPuRuns
import Derived.Test.YtombnimlolbekaaGreatDoorPuArgs
import Derived.Test.YtombnimlolbekaaGreatDoorPuG
namespace Go.Proofs.YtombnimlolbekaaGreatDoor
open Go Fw

def sledTy : Ty := .st [.st [.int .i64, .int .i64], .int .i64, .int .i64, .int .i64]

theorem sled_args {ps : List PVal} (h : HasTy sledTy ps) : ∃ s : SledI, ps = slc s := by
 obtain ⟨g, r1, rfl, ⟨g1, g2, rfl, ⟨a, rfl, _⟩, _, g3, g4, rfl, ⟨b, rfl, _⟩, _, hg4⟩, _, x1, r2, rfl, ⟨lag, rfl, _⟩, _, x2, r3, rfl, ⟨dl, rfl, _⟩, _, x3, r4, rfl, ⟨ld, rfl, _⟩, _, hr4⟩ := h
 have hg4' : g4 = [] := hg4
 have hr4' : r4 = [] := hr4
 subst hg4' hr4'
 exact ⟨⟨a, b, lag, dl, ld⟩, rfl⟩

theorem pairs_args {ps : List PVal} (h : HasTy (.sl (.st [.int .i64, .int .i64])) ps) : ∃ c : List (Int × Int), ps = [.sl (cI c) c.length] := by
 obtain ⟨rows, h1, h2, _⟩ := h
 obtain ⟨c, e1, e2, _⟩ := rows_pairs rows h2
 exact ⟨c, by rw [h1, e1, e2]⟩

end Go.Proofs.YtombnimlolbekaaGreatDoor
