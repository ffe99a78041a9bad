/- The package variables, at this program. -/
import Derived.Test.YthiklnppmlmjeaaDoorToF
import Derived.Test.YthiklnppmlmjeaaDoorToC
import Derived.Test.YthiklnppmlmjeaaDoorFwC
import Derived.LaidSub
import Derived.Test.YthiklnppmlmjeaaDoorCards
namespace Go.Proofs.YthiklnppmlmjeaaDoor
open Go Fw
set_option maxRecDepth 100000

theorem cok : COk (CMP Tryd.prog) Tryd.prog G0 C0 := by
 refine tabC_ok (fun x hx => ?_)
 cases hx

theorem gok {w : World} (hL : laidMetH Tryd.prog Rows.topRivetWaitsRow.laid w) : GOk G0 w (fun _ => True) := by
 intro g cs hg
 unfold G0 at hg
 split at hg <;> first | (cases hg; done) | skip
 all_goals (rw [Option.some.injEq] at hg; subst hg)
 ·exact laid_funcs (n := 8) hL (List.mem_of_getElem? (i := 0) rfl) (by kernel_rfl) (t := 202) (by kernel_rfl) (by kernel_rfl)
 ·exact laid_funcs (n := 8) hL (List.mem_of_getElem? (i := 1) rfl) (by kernel_rfl) (t := 206) (by kernel_rfl) (by kernel_rfl)
end Go.Proofs.YthiklnppmlmjeaaDoor
