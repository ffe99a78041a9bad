import Derived.Test.YtbaedpfgjpkabaaGreatDoorChKer
import Derived.Test.YtbaedpfgjpkabaaGreatDoorChA
import Derived.Test.YtbaedpfgjpkabaaGreatDoorChArgs
import Derived.Test.YtbaedpfgjpkabaaGreatDoorChG
namespace Go.Proofs.YtbaedpfgjpkabaaGreatDoor
open Go Fw
set_option maxRecDepth 100000
theorem evP_RUN (f : Nat) (args : List AVal) : evP F C0 G0 61 f args = RUN 61 f args := rfl
theorem awake60 : RUN 60 15 [] = .ret (.p (.bool true)) := awake
attribute [local irreducible] evP T.All callPure
abbrev TsKer : List Ty := [.sl (.flt .f32), .sl (.int .i64)]
theorem ker_law (pss : List (List PVal)) (h : HasArgs TsKer pss) : (evP F C0 G0 61 5 (argsOf TsKer pss)).All (· = .p (.bool true)) := by
  obtain ⟨ps, qs, rfl, h1, h2⟩ := HasArgs2 h
  obtain ⟨l, rfl⟩ := floats_args h1
  obtain ⟨k, rfl⟩ := ints_args h2
  have ha : argsOf TsKer [[.sl (pF l) l.length], [.sl (pI k) k.length]] = [fsl l, isl k] := rfl
  rw [evP_RUN, ha, ker_at awake60 l k, All_ret]
end Go.Proofs.YtbaedpfgjpkabaaGreatDoor
