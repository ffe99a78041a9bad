import Derived.Test.YtbaedpfgjpkabaaGreatDoorChCod
import Derived.Test.YtbaedpfgjpkabaaGreatDoorChA
import Derived.Test.YtbaedpfgjpkabaaGreatDoorChArgs
import Derived.Test.YtbaedpfgjpkabaaGreatDoorChG
namespace Go.Proofs.YtbaedpfgjpkabaaGreatDoor
open Go Fw
set_option maxRecDepth 100000
theorem evP_RUN (f : Nat) (args : List AVal) : evP F C0 G0 61 f args = RUN 61 f args := rfl
theorem awake60 : RUN 60 15 [] = .ret (.p (.bool true)) := awake
attribute [local irreducible] evP T.All callPure
abbrev codeTy : Ty := .st [.str, .int .i64, .int .i64]
abbrev TsCod : List Ty := [codeTy, .str]
theorem cod_law (pss : List (List PVal)) (h : HasArgs TsCod pss) : (evP F C0 G0 61 3 (argsOf TsCod pss)).All (· = .p (.bool true)) := by
  obtain ⟨ps, qs, rfl, h1, h2⟩ := HasArgs2 h
  obtain ⟨_, r1, rfl, ⟨p, rfl, _⟩, _, _, r2, rfl, ⟨a, rfl, _⟩, _, _, r3, rfl, ⟨g, rfl, _⟩, _, hr⟩ := h1
  have hr' : r3 = [] := hr
  subst hr'
  obtain ⟨s, rfl, _⟩ := h2
  have ha : argsOf TsCod [[.str p] ++ ([.int .i64 a] ++ ([.int .i64 g] ++ [])), [.str s]] = [cda ⟨p, a, g⟩, sv s] := rfl
  rw [evP_RUN, ha, codes_of awake60 ⟨p, a, g⟩ s, All_ret]
end Go.Proofs.YtbaedpfgjpkabaaGreatDoor
