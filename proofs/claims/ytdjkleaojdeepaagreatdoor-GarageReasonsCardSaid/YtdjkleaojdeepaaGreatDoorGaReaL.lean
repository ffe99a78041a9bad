import Derived.Test.YtdjkleaojdeepaaGreatDoorGaRea
import Derived.Test.YtdjkleaojdeepaaGreatDoorGaA
import Derived.Test.YtdjkleaojdeepaaGreatDoorGaArg2
import Derived.Test.YtdjkleaojdeepaaGreatDoorGaG
namespace Fw
open Go
theorem asked_args {ps : List PVal} (h : HasTy (.st [actTy, .int .i64, .int .i64]) ps) : ∃ (x : ActI) (a b : Int), ps = [.int .i64 x.tick, .str x.kind, .int .i64 x.num, .int .i64 x.a, .int .i64 x.b, .int .i64 x.c, .int .i64 a, .int .i64 b] := by
  obtain ⟨_, r1, rfl, hx, _, _, r2, rfl, ⟨a, rfl, _⟩, _, _, r3, rfl, ⟨b, rfl, _⟩, _, hr⟩ := h
  have hr' : r3 = [] := hr
  subst hr'
  obtain ⟨x, rfl⟩ := act_args hx
  exact ⟨x, a, b, rfl⟩
end Fw
namespace Go.Proofs.YtdjkleaojdeepaaGreatDoor
open Go Fw
set_option maxRecDepth 100000
theorem evP_RUN (f : Nat) (args : List AVal) : evP F C0 G0 61 f args = RUN 61 f args := rfl
theorem awake60 : RUN 60 17 [] = .ret (.p (.bool true)) := awake
attribute [local irreducible] evP T.All callPure
abbrev TsRea : List Ty := [hallTy, .sl actTy, .st [actTy, .int .i64, .int .i64]]
theorem rea_law (pss : List (List PVal)) (h : HasArgs TsRea pss) : (evP F C0 G0 61 3 (argsOf TsRea pss)).All (· = .p (.bool true)) := by
  obtain ⟨ps, qs, rs, rfl, h1, h2, h3⟩ := HasArgs3 h
  obtain ⟨y, rfl⟩ := hall_args h1
  obtain ⟨l, rfl, hl, _⟩ := acts_args h2
  obtain ⟨x, a, b, rfl⟩ := asked_args h3
  have ha : argsOf TsRea [[.int .i64 y.doors, .int .i64 y.base, .sl (cI y.t0) y.t0.length, .sl (cI y.t1) y.t1.length, .sl (cI y.t2) y.t2.length], [.sl (rowC ac l) l.length], [.int .i64 x.tick, .str x.kind, .int .i64 x.num, .int .i64 x.a, .int .i64 x.b, .int .i64 x.c, .int .i64 a, .int .i64 b]] = [ha y, asl l, .agg [iv x.tick, sv x.kind, iv x.num, iv x.a, iv x.b, iv x.c, iv a, iv b]] := rfl
  rw [evP_RUN, ha, rea_at awake60 y l hl x a b, All_ret]
end Go.Proofs.YtdjkleaojdeepaaGreatDoor
