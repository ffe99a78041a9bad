import Derived.Test.YtbaedpfgjpkabaaGreatDoorChBk2
import Derived.Test.YtbaedpfgjpkabaaGreatDoorChStrL
namespace Go.Proofs.YtbaedpfgjpkabaaGreatDoor
open Go Fw
set_option maxRecDepth 100000
theorem evP_RUNb (f : Nat) (args : List AVal) : evP F C0 G0 61 f args = RUN 61 f args := rfl
attribute [local irreducible] evP T.All callPure
theorem back_law (pss : List (List PVal)) (h : HasArgs TsStr pss) : (evP F C0 G0 61 14 (argsOf TsStr pss)).All (· = .p (.bool true)) := by
  obtain ⟨ps, qs, rfl, h1, h2⟩ := HasArgs2 h
  obtain ⟨l, rfl, _⟩ := sens_args h1
  obtain ⟨s, rfl, _⟩ := h2
  have ha : argsOf TsStr [[.sl (rowC sc l) l.length], [.str s]] = [ssl l, sv s] := rfl
  rw [evP_RUNb, ha, back_at awake60 l s, All_ret]
end Go.Proofs.YtbaedpfgjpkabaaGreatDoor
