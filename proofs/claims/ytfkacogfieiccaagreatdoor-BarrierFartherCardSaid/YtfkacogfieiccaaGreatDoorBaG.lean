/- The contracts of the library's functions and the package variables, at this program. -/
import Derived.Test.YtfkacogfieiccaaGreatDoorBaF
import Derived.Test.YtfkacogfieiccaaGreatDoorBaC
import Derived.Test.YtfkacogfieiccaaGreatDoorBaShelf
import Derived.Test.YtfkacogfieiccaaGreatDoorFwC
import Derived.LaidSub
import Derived.Test.YtfkacogfieiccaaGreatDoorCards
namespace Go.Proofs.YtfkacogfieiccaaGreatDoor
open Go Fw
set_option maxRecDepth 100000

theorem cok : COk (CMP Tryz.prog) Tryz.prog G0 C0 := by
 refine tabC_ok (fun x hx => ?_)
 simp only [List.mem_cons, List.not_mem_nil, or_false] at hx
 rcases hx with rfl | rfl | rfl | rfl | rfl
 ·exact cJoin_ok Tryz.func145 (by kernel_rfl) (by kernel_rfl) Tryz.strings_Join_none (fun bk o c xs sep w h1 h2 h3 h4 h5 => Tryz.strings_Join bk o c xs sep w h1 h2 h3 h4 h5)
 ·exact cItoa_ok Tryz.func168 (by kernel_rfl) (by kernel_rfl) (g := 3) (by kernel_rfl) (by kernel_rfl) (fun n h0 h1 w ht => Tryz.strconv_Itoa n h0 h1 w ht)
 ·exact cGrow_ok Tryz.func177 (by kernel_rfl) (by kernel_rfl) (_z := .int .i64 0) Tryz.grow_room (t := 3) Tryz.grow_new
 ·exact cIndexByte_ok Tryz.func190 (by kernel_rfl) (by kernel_rfl) (by kernel_rfl) (by kernel_rfl)
 ·exact cCount_ok Tryz.func201 (by kernel_rfl) (by kernel_rfl) (by kernel_rfl) (by kernel_rfl)

theorem gok {w : World} (hL : laidMetH Tryz.prog Rows.barrierTablesRow.laid w) : GOk G0 w (fun _ => True) := by
 obtain ⟨qs, h, _⟩ := (laidMetH_iff.1 hL).1
 have hm : ∃ qs, DataW.LaidVars Tryz.prog w (Rows.barrierTablesRow.laid.filter fun x => x.2.handleName?.isNone) qs := ⟨qs, h⟩
 intro g cs hg
 unfold G0 at hg
 split at hg <;> first | (cases hg; done) | skip
 all_goals (rw [Option.some.injEq] at hg; subst hg)
 ·exact laid_funcs (n := 8) hL (List.mem_of_getElem? (i := 4) rfl) (by kernel_rfl) (t := 221) (by kernel_rfl) (by kernel_rfl)
 ·exact laid_data (n := 8) hm (List.mem_filter.2 ⟨List.mem_of_getElem? (i := 5) rfl, by kernel_rfl⟩) (by kernel_rfl) (t := 229) (by kernel_rfl) (by kernel_rfl)
 ·exact laid_data (n := 8) hm (List.mem_filter.2 ⟨List.mem_of_getElem? (i := 2) rfl, by kernel_rfl⟩) (by kernel_rfl) (t := 286) (by kernel_rfl) (by kernel_rfl)
 ·exact laid_data (n := 8) hm (List.mem_filter.2 ⟨List.mem_of_getElem? (i := 3) rfl, by kernel_rfl⟩) (by kernel_rfl) (t := 295) (by kernel_rfl) (by kernel_rfl)
end Go.Proofs.YtfkacogfieiccaaGreatDoor
