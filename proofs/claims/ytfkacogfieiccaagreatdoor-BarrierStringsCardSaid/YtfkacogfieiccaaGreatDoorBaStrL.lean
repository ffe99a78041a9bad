import Derived.Test.YtfkacogfieiccaaGreatDoorBaSB
import Derived.Test.YtfkacogfieiccaaGreatDoorBaArgs
import Derived.Test.YtfkacogfieiccaaGreatDoorBaG
namespace Go.Proofs.YtfkacogfieiccaaGreatDoor
open Go Fw
set_option maxRecDepth 100000

theorem evP_RUN9 (n f : Nat) (args : List AVal) : evP F C0 G0 n f args = RUN n f args := rfl
attribute [local irreducible] evP T.All callPure
abbrev TsStr : List Ty := [towTy, .str]
theorem str_law (pss : List (List PVal)) (h : HasArgs TsStr pss) : (evP F C0 G0 61 9 (argsOf TsStr pss)).All (· = .p (.bool true)) := by
  obtain ⟨ps, qs, rfl, h1, h2⟩ := HasArgs2 h
  obtain ⟨t, rfl⟩ := tow_args h1
  obtain ⟨s, rfl, _⟩ := h2
  have := str_at t s
  have ha : argsOf TsStr [twc t, [.str s]] = [twa t, sv s] := rfl
  rw [evP_RUN9, ha, this, All_ret]
end Go.Proofs.YtfkacogfieiccaaGreatDoor
