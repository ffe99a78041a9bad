import Derived.Test.YtbaedpfgjpkabaaGreatDoorChSen
import Derived.Test.YtbaedpfgjpkabaaGreatDoorChA
import Derived.Test.YtbaedpfgjpkabaaGreatDoorChArgs
import Derived.Test.YtbaedpfgjpkabaaGreatDoorChG
namespace Go.Proofs.YtbaedpfgjpkabaaGreatDoor
open Go Fw
set_option maxRecDepth 100000
theorem evP_RUN (f : Nat) (args : List AVal) : evP F C0 G0 61 f args = RUN 61 f args := rfl
theorem awake60 : RUN 60 15 [] = .ret (.p (.bool true)) := awake
attribute [local irreducible] evP T.All callPure
abbrev senTy : Ty := .st [.str, .int .i64, bandTy]
abbrev TsSen : List Ty := [senTy, .sl (.flt .f32), .st [.int .i64, .int .i64, .int .i64]]
theorem sen_law (pss : List (List PVal)) (h : HasArgs TsSen pss) : (evP F C0 G0 61 4 (argsOf TsSen pss)).All (· = .p (.bool true)) := by
  obtain ⟨ps, qs, rs, rfl, h1, h2, h3⟩ := HasArgs3 h
  obtain ⟨_, r1, rfl, ⟨p, rfl, _⟩, _, _, r2, rfl, ⟨sc, rfl, _⟩, _, _, r3, rfl, hb, _, hr⟩ := h1
  have hr' : r3 = [] := hr
  subst hr'
  obtain ⟨a, b, rfl⟩ := band_args hb
  obtain ⟨l, rfl⟩ := floats_args h2
  obtain ⟨_, q1, rfl, ⟨z, rfl, _⟩, _, _, q2, rfl, ⟨e, rfl, _⟩, _, _, q3, rfl, ⟨m, rfl, _⟩, _, hq⟩ := h3
  have hq' : q3 = [] := hq
  subst hq'
  have ha : argsOf TsSen [[.str p] ++ ([.int .i64 sc] ++ ([.int .i64 a, .int .i64 b] ++ [])), [.sl (pF l) l.length], [.int .i64 z] ++ ([.int .i64 e] ++ ([.int .i64 m] ++ []))] = [sea ⟨p, sc, a, b⟩, fsl l, .agg [iv z, iv e, iv m]] := rfl
  rw [evP_RUN, ha, sen_at awake60 ⟨p, sc, a, b⟩ l z e m, All_ret]
end Go.Proofs.YtbaedpfgjpkabaaGreatDoor
