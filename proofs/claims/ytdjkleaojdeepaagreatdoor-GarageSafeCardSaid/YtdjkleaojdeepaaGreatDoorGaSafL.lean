import Derived.Test.YtdjkleaojdeepaaGreatDoorGaSf6
import Derived.Test.YtdjkleaojdeepaaGreatDoorGaA
import Derived.Test.YtdjkleaojdeepaaGreatDoorGaArg2
import Derived.Test.YtdjkleaojdeepaaGreatDoorGaG
namespace Go.Proofs.YtdjkleaojdeepaaGreatDoor
open Go Fw
set_option maxRecDepth 100000
theorem evP_RUN (f : Nat) (args : List AVal) : evP F C0 G0 61 f args = RUN 61 f args := rfl
theorem awake60 : RUN 60 17 [] = .ret (.p (.bool true)) := awake
attribute [local irreducible] evP T.All callPure
abbrev TsSaf : List Ty := [hallTy, .sl actTy]
theorem saf_law (pss : List (List PVal)) (h : HasArgs TsSaf pss) : (evP F C0 G0 61 9 (argsOf TsSaf pss)).All (· = .p (.bool true)) := by
 obtain ⟨ps, qs, rfl, h1, h2⟩ := HasArgs2 h
 obtain ⟨y, rfl⟩ := hall_args h1
 obtain ⟨l, rfl, hl, _⟩ := acts_args h2
 have ha : argsOf TsSaf [[.int .i64 y.doors, .int .i64 y.base, .sl (cI y.t0) y.t0.length, .sl (cI y.t1) y.t1.length, .sl (cI y.t2) y.t2.length], [.sl (rowC ac l) l.length]] = [ha y, asl l] := rfl
 rw [evP_RUN, ha, saf_at awake60 y l hl, All_ret]
end Go.Proofs.YtdjkleaojdeepaaGreatDoor
