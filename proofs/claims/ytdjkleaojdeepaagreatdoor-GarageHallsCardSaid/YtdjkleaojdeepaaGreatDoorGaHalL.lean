import Derived.Test.YtdjkleaojdeepaaGreatDoorGaHal
import Derived.Test.YtdjkleaojdeepaaGreatDoorGaA
import Derived.Test.YtdjkleaojdeepaaGreatDoorGaArgs
import Derived.Test.YtdjkleaojdeepaaGreatDoorGaG
namespace Go.Proofs.YtdjkleaojdeepaaGreatDoor
open Go Fw
set_option maxRecDepth 100000
theorem evP_RUN (f : Nat) (args : List AVal) : evP F C0 G0 61 f args = RUN 61 f args := rfl
theorem awake60 : RUN 60 17 [] = .ret (.p (.bool true)) := awake
attribute [local irreducible] evP T.All callPure
abbrev TsHal : List Ty := [hallTy, .st [actTy, .arr 3 (.int .i64)]]
theorem hal_law (pss : List (List PVal)) (h : HasArgs TsHal pss) : (evP F C0 G0 61 14 (argsOf TsHal pss)).All (· = .p (.bool true)) := by
  obtain ⟨ps, qs, rfl, h1, h2⟩ := HasArgs2 h
  obtain ⟨y, rfl⟩ := hall_args h1
  obtain ⟨x, a, b, c, rfl⟩ := meas_args h2
  have ha : argsOf TsHal [[.int .i64 y.doors, .int .i64 y.base, .sl (cI y.t0) y.t0.length, .sl (cI y.t1) y.t1.length, .sl (cI y.t2) y.t2.length], [.int .i64 x.tick, .str x.kind, .int .i64 x.num, .int .i64 x.a, .int .i64 x.b, .int .i64 x.c, .int .i64 a, .int .i64 b, .int .i64 c]] = [ha y, .agg [iv x.tick, sv x.kind, iv x.num, iv x.a, iv x.b, iv x.c, iv a, iv b, iv c]] := rfl
  rw [evP_RUN, ha, hal_at awake60 y x a b c, All_ret]
end Go.Proofs.YtdjkleaojdeepaaGreatDoor
