import Derived.Test.YtombnimlolbekaaGreatDoorPuStr
import Derived.Test.YtombnimlolbekaaGreatDoorPuRunsL
namespace Go.Proofs.YtombnimlolbekaaGreatDoor
open Go Fw
set_option maxRecDepth 100000

abbrev TsStr : List Ty := [.sl (.st [.int .i64, .int .i64]), .str]
theorem str_law (pss : List (List PVal)) (h : HasArgs TsStr pss) : (evP F C0 G0 61 7 (argsOf TsStr pss)).All (· = .p (.bool true)) := by
  obtain ⟨ps, qs, rfl, h1, h2⟩ := HasArgs2 h
  · obtain ⟨l, rfl⟩ := pairs_args h1
    obtain ⟨s, rfl, _⟩ := h2
    have := str_at l s
    show (RUN 61 7 [csl l, .p (.str s)]).All _
    rw [this]
    exact rfl
end Go.Proofs.YtombnimlolbekaaGreatDoor
