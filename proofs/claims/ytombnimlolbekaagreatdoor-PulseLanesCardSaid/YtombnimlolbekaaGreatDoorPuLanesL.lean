import Derived.Test.YtombnimlolbekaaGreatDoorPuLanes
import Derived.Test.YtombnimlolbekaaGreatDoorPuArgs
import Derived.Test.YtombnimlolbekaaGreatDoorPuG
namespace Go.Proofs.YtombnimlolbekaaGreatDoor
open Go Fw

theorem lanes_law (pss : List (List PVal)) (h : HasArgs [.sl (.st [.int .i64, .int .i64]), .sl (.int .i64)] pss) : (evP F C0 G0 61 4 (argsOf [.sl (.st [.int .i64, .int .i64]), .sl (.int .i64)] pss)).All (· = .p (.bool true)) := by
  match pss, h with
  | [ps, qs], ⟨⟨rows, h1, h2⟩, _, ⟨rows', h3, h4⟩, _, _⟩ =>
    obtain ⟨c, e1, e2, _⟩ := rows_pairs rows h2
    obtain ⟨p, e3, e4, _⟩ := rows_ints rows' h4
    subst h1 h3
    rw [e1, ← e2, e3, ← e4]
    have := lanes_at c p
    show (RUN 61 4 [csl c, isl p]).All _
    rw [this]
    exact rfl
end Go.Proofs.YtombnimlolbekaaGreatDoor
