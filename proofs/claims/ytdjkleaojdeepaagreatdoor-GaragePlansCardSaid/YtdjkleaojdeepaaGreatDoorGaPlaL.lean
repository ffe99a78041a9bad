import Derived.Test.YtdjkleaojdeepaaGreatDoorGaPla
import Derived.Test.YtdjkleaojdeepaaGreatDoorGaJobL
namespace Go.Proofs.YtdjkleaojdeepaaGreatDoor
open Go Fw
set_option maxRecDepth 100000
attribute [local irreducible] evP T.All callPure
abbrev TsPla : List Ty := [.sl jobTy]
theorem pla_law (pss : List (List PVal)) (h : HasArgs TsPla pss) : (evP F C0 G0 61 7 (argsOf TsPla pss)).All (· = .p (.bool true)) := by
  obtain ⟨ps, rfl, h1⟩ := HasArgs1 h
  obtain ⟨l, rfl, hl, hx⟩ := jobs_args h1
  have ha : argsOf TsPla [[.sl (rowC jc l) l.length]] = [jsl l] := rfl
  rw [evP_RUN, ha]
  exact pla_at awake60 l hl hx
end Go.Proofs.YtdjkleaojdeepaaGreatDoor
