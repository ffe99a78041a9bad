import Derived.Test.YtbaedpfgjpkabaaGreatDoorChFil
import Derived.Test.YtbaedpfgjpkabaaGreatDoorChA
import Derived.Test.YtbaedpfgjpkabaaGreatDoorChArgs
import Derived.Test.YtbaedpfgjpkabaaGreatDoorChG
namespace Go.Proofs.YtbaedpfgjpkabaaGreatDoor
open Go Fw
set_option maxRecDepth 100000
theorem evP_RUN (f : Nat) (args : List AVal) : evP F C0 G0 61 f args = RUN 61 f args := rfl
theorem awake60 : RUN 60 15 [] = .ret (.p (.bool true)) := awake
attribute [local irreducible] evP T.All callPure
abbrev TsFil : List Ty := [.sl (.flt .f32), .sl bandTy, .int .i64]
theorem fil_law (pss : List (List PVal)) (h : HasArgs TsFil pss) : (evP F C0 G0 61 8 (argsOf TsFil pss)).All (· = .p (.bool true)) := by
  obtain ⟨ps, qs, rs, rfl, h1, h2, ⟨r, rfl, _⟩⟩ := HasArgs3 h
  obtain ⟨l, rfl⟩ := floats_args h1
  obtain ⟨g, rfl⟩ := bands_args h2
  have ha : argsOf TsFil [[.sl (pF l) l.length], [.sl (cI g) g.length], [.int .i64 r]] = [fsl l, csl g, iv r] := rfl
  rw [evP_RUN, ha, fil_at awake60 l g r, All_ret]
end Go.Proofs.YtbaedpfgjpkabaaGreatDoor
