import Derived.Test.YtdjkleaojdeepaaGreatDoorGaMov
import Derived.Test.YtdjkleaojdeepaaGreatDoorGaA
import Derived.Test.YtdjkleaojdeepaaGreatDoorGaArgs
import Derived.Test.YtdjkleaojdeepaaGreatDoorGaG
namespace Go.Proofs.YtdjkleaojdeepaaGreatDoor
open Go Fw
set_option maxRecDepth 100000
theorem evP_RUN (f : Nat) (args : List AVal) : evP F C0 G0 61 f args = RUN 61 f args := rfl
theorem awake60 : RUN 60 17 [] = .ret (.p (.bool true)) := awake
attribute [local irreducible] evP T.All callPure
abbrev TsMov : List Ty := [.sl (.int .i64), .sl bandTy]
theorem mov_law (pss : List (List PVal)) (h : HasArgs TsMov pss) : (evP F C0 G0 61 5 (argsOf TsMov pss)).All (· = .p (.bool true)) := by
  obtain ⟨ps, qs, rfl, h1, h2⟩ := HasArgs2 h
  obtain ⟨l, rfl⟩ := ints_args h1
  obtain ⟨g, rfl⟩ := bands_args h2
  have ha : argsOf TsMov [[.sl (pI l) l.length], [.sl (cI g) g.length]] = [isl l, csl g] := rfl
  rw [evP_RUN, ha, mov_at awake60 l g, All_ret]
end Go.Proofs.YtdjkleaojdeepaaGreatDoor
