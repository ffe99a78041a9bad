/- The law TopRivetWaits of the program: its tied card holds: the function returns true at every input, and the input reads as it did. The condition: the package variables that the row lists are laid as it says. -/
import Derived.Test.YthiklnppmlmjeaaDoorToCl3A
namespace Go.Proofs.YthiklnppmlmjeaaDoor
open Go Go.ChangeShapes Go.WideShapes Go.ChangeAt Go.RowKit Fw
set_option maxRecDepth 100000

theorem ip3 : (Rows.topRivetWaitsRow.inPlace == Tryd.prog.inPlace 3) = true := by kernel_rfl
theorem un3 : (Rows.topRivetWaitsRow.unfollowed == Tryd.prog.unfollowed 3) = true := by kernel_rfl
theorem rc3 : (Rows.topRivetWaitsRow.recurses == Tryd.prog.recurses 3) = true := by kernel_rfl
theorem nm3 : (Rows.topRivetWaitsRow.named == Tryd.prog.varsNamed 3) = true := by kernel_rfl
theorem closed3 : joinedFacts Tryd.prog 3 Tryd.f3 Rows.topRivetWaitsSpec Rows.topRivetWaitsRow = true := by
 unfold joinedFacts
 rw [ip3, un3, rc3, nm3, laidOut3]
 kernel_rfl
theorem named3 : Tryd.prog.funcNamed Rows.topRivetWaitsRow.func = some 3 := by kernel_rfl

theorem said3 : Rows.TopRivetWaitsSaid :=
 OpenClaim.holds_of_wide 3 Tryd.f3 rfl rfl rfl rfl rfl rfl rfl ⟨rfl, rfl, rfl, rfl, rfl⟩ rfl rfl rfl rfl rfl named3 Tryd.func3 closed3
  (of_decide_eq_true (by kernel_rfl)) (by unfold Func.isWrapper; first | (rw [if_pos (by decide +kernel)]; kernel_rfl) | (rw [if_neg (by decide +kernel)]; exact ⟨rfl, rfl⟩))
  (fun os started H enc _ => lifted3 os started H enc)

theorem wf3 : Rows.topRivetWaitsRow.wfByText (OpenSpec.ofChange Rows.topRivetWaitsSpec) = true := by kernel_rfl
theorem main3 : Tryd.checked.prog.mainIs = some (true, "6b48f381f36573881358c1f16aa088096b1276b0f687c38b666a6feea1fd370a".toList) := by kernel_rfl
theorem looks3 : false = Tryd.prog.looks [] := by kernel_rfl
theorem hall3 : (Tryd.f3.params.toList.all fun u => !Tryd.prog.wantsStandIn u) = true := by kernel_rfl
theorem goes3 : false = Rows.topRivetWaitsRow.goesBy Tryd.checked.prog := by kernel_rfl
theorem card3 : Rows.TopRivetWaitsCardSaid :=
 Claim7.holds_tied_plain_at .later [] [.funcsDeep, .funcs] true (true, "6b48f381f36573881358c1f16aa088096b1276b0f687c38b666a6feea1fd370a") false
  said3 (fun _ h => by cases h) wf3 (fun _ h => by cases h) topRivetWaits_row_tie rfl ⟨rfl, rfl⟩ main3 rfl
  (fun f fn hf hfn => by
   obtain rfl : f = 3 := (Option.some.inj (named3.symm.trans hf)).symm
   obtain rfl : fn = Tryd.f3 := (Option.some.inj (Tryd.func3.symm.trans hfn)).symm
   exact ⟨looks3, fun j t ht => by
    have hm : t ∈ Tryd.f3.params.toList := by simpa using Array.mem_of_getElem? ht
    exact (show Tryd.prog.wantsStandIn t = false by simpa using List.all_eq_true.1 hall3 t hm)⟩)
  goes3
end Go.Proofs.YthiklnppmlmjeaaDoor
