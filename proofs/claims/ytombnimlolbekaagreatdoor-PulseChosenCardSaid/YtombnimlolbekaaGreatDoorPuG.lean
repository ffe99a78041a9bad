/- The contracts of the library's functions and the package variables, at this program. -/
import Derived.Test.YtombnimlolbekaaGreatDoorPuF
import Derived.Test.YtombnimlolbekaaGreatDoorPuC
import Derived.Test.YtombnimlolbekaaGreatDoorPuShelf
import Derived.Test.YtombnimlolbekaaGreatDoorFwC
import Derived.Test.YtombnimlolbekaaGreatDoorCards
namespace Go.Proofs.YtombnimlolbekaaGreatDoor
open Go Fw
set_option maxRecDepth 100000

theorem cok : COk (CMP Tryz.prog) Tryz.prog G0 C0 := by
 refine tabC_ok (fun x hx => ?_)
 simp only [List.mem_cons, List.not_mem_nil, or_false] at hx
 rcases hx with rfl | rfl | rfl | rfl
 ·exact cJoin_ok Tryz.func130 (by kernel_rfl) (by kernel_rfl) Tryz.strings_Join_none (fun bk o c xs sep w h1 h2 h3 h4 h5 => Tryz.strings_Join bk o c xs sep w h1 h2 h3 h4 h5)
 ·exact cItoa_ok Tryz.func133 (by kernel_rfl) (by kernel_rfl) (g := 2) (by kernel_rfl) (by kernel_rfl) (fun n h0 h1 w ht => Tryz.strconv_Itoa n h0 h1 w ht)
 ·exact cIndexByte_ok Tryz.func198 (by kernel_rfl) (by kernel_rfl) (by kernel_rfl) (by kernel_rfl)
 ·exact cCount_ok Tryz.func201 (by kernel_rfl) (by kernel_rfl) (by kernel_rfl) (by kernel_rfl)

theorem gok {w : World} (hL : laidMetH Tryz.prog Rows.pulseLanesRow.laid w) : GOk G0 w (fun _ => True) := by
 have hm : ∃ qs, DataW.LaidVars Tryz.prog w Rows.pulseLanesRow.laid qs := by
  obtain ⟨qs, h, _⟩ := (show laidMet Tryz.prog Rows.pulseLanesRow.laid w from hL)
  exact ⟨qs, h⟩
 intro g cs hg
 unfold G0 at hg
 split at hg <;> first | (cases hg; done) | skip
 all_goals (rw [Option.some.injEq] at hg; subst hg)
 ·exact laid_data (n := 8) hm (List.mem_of_getElem? (i := 4) rfl) (by kernel_rfl) (t := 186) (by kernel_rfl) (by kernel_rfl)
 ·exact laid_data (n := 8) hm (List.mem_of_getElem? (i := 2) rfl) (by kernel_rfl) (t := 261) (by kernel_rfl) (by kernel_rfl)
 ·exact laid_data (n := 8) hm (List.mem_of_getElem? (i := 3) rfl) (by kernel_rfl) (t := 270) (by kernel_rfl) (by kernel_rfl)
end Go.Proofs.YtombnimlolbekaaGreatDoor
