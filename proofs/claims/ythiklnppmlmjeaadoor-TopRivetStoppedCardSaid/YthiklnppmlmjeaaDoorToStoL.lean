import Derived.Test.YthiklnppmlmjeaaDoorToArg2
import Derived.Test.YthiklnppmlmjeaaDoorToA2
import Derived.Test.YthiklnppmlmjeaaDoorToG
namespace Go.Proofs.YthiklnppmlmjeaaDoor
open Go Fw
set_option maxRecDepth 100000
theorem evP_RUN (f : Nat) (args : List AVal) : evP F C0 G0 61 f args = RUN 61 f args := rfl
theorem awake60 : RUN 60 23 [] = .ret (.p (.bool true)) := awakeS
attribute [local irreducible] evP T.All callPure
abbrev TsStp : List Ty := [towTy, hallTy, .sl actTy]
theorem stp_law (pss : List (List PVal)) (h : HasArgs TsStp pss) : (evP F C0 G0 61 4 (argsOf TsStp pss)).All (· = .p (.bool true)) := by
 obtain ⟨ps, qs, rs, rfl, h1, h2, h3⟩ := HasArgs3 h
 obtain ⟨t, rfl⟩ := tow_args h1
 obtain ⟨y, rfl⟩ := hall_args h2
 obtain ⟨l, rfl, hl⟩ := acts_args h3
 have ha : argsOf TsStp [twc t, [.int .i64 y.doors, .int .i64 y.base, .sl (cI y.t0) y.t0.length, .sl (cI y.t1) y.t1.length, .sl (cI y.t2) y.t2.length], [.sl (rowC ac l) l.length]] = [twa t, ha y, asl l] := rfl
 rw [evP_RUN, ha, stopped_at awake60 t y l hl, All_ret]
end Go.Proofs.YthiklnppmlmjeaaDoor
