/- The law TopRivetStopped of the program: its tied card holds: the function returns true at every input, and the input reads as it did. The condition: the package variables that the row lists are laid as it says. -/
import Derived.Test.YthiklnppmlmjeaaDoorToCl4A
namespace Go.Proofs.YthiklnppmlmjeaaDoor
open Go Go.ChangeShapes Go.WideShapes Go.ChangeAt Go.RowKit Fw
set_option maxRecDepth 100000

theorem ip4 : (Rows.topRivetStoppedRow.inPlace == Tryd.prog.inPlace 4) = true := by kernel_rfl
theorem un4 : (Rows.topRivetStoppedRow.unfollowed == Tryd.prog.unfollowed 4) = true := by kernel_rfl
theorem rc4 : (Rows.topRivetStoppedRow.recurses == Tryd.prog.recurses 4) = true := by kernel_rfl
theorem nm4 : (Rows.topRivetStoppedRow.named == Tryd.prog.varsNamed 4) = true := by kernel_rfl
theorem closed4 : joinedFacts Tryd.prog 4 Tryd.f4 Rows.topRivetStoppedSpec Rows.topRivetStoppedRow = true := by
 unfold joinedFacts
 rw [ip4, un4, rc4, nm4, laidOut4]
 kernel_rfl
theorem named4 : Tryd.prog.funcNamed Rows.topRivetStoppedRow.func = some 4 := by kernel_rfl

theorem said4 : Rows.TopRivetStoppedSaid :=
 OpenClaim.holds_of_wide 4 Tryd.f4 rfl rfl rfl rfl rfl rfl rfl ⟨rfl, rfl, rfl, rfl, rfl⟩ rfl rfl rfl rfl rfl named4 Tryd.func4 closed4
  (of_decide_eq_true (by kernel_rfl)) (by unfold Func.isWrapper; first | (rw [if_pos (by decide +kernel)]; kernel_rfl) | (rw [if_neg (by decide +kernel)]; exact ⟨rfl, rfl⟩))
  (fun os started H enc _ => lifted4 os started H enc)

theorem wf4 : Rows.topRivetStoppedRow.wfByText (OpenSpec.ofChange Rows.topRivetStoppedSpec) = true := by kernel_rfl
theorem main4 : Tryd.checked.prog.mainIs = some (true, "6b48f381f36573881358c1f16aa088096b1276b0f687c38b666a6feea1fd370a".toList) := by kernel_rfl
theorem looks4 : false = Tryd.prog.looks [] := by kernel_rfl
theorem hall4 : (Tryd.f4.params.toList.all fun u => !Tryd.prog.wantsStandIn u) = true := by kernel_rfl
theorem goes4 : false = Rows.topRivetStoppedRow.goesBy Tryd.checked.prog := by kernel_rfl
theorem card4 : Rows.TopRivetStoppedCardSaid :=
 Claim7.holds_tied_plain_at .later [] [.funcsDeep, .funcs] true (true, "6b48f381f36573881358c1f16aa088096b1276b0f687c38b666a6feea1fd370a") false
  said4 (fun _ h => by cases h) wf4 (fun _ h => by cases h) topRivetStopped_row_tie rfl ⟨rfl, rfl⟩ main4 rfl
  (fun f fn hf hfn => by
   obtain rfl : f = 4 := (Option.some.inj (named4.symm.trans hf)).symm
   obtain rfl : fn = Tryd.f4 := (Option.some.inj (Tryd.func4.symm.trans hfn)).symm
   exact ⟨looks4, fun j t ht => by
    have hm : t ∈ Tryd.f4.params.toList := by simpa using Array.mem_of_getElem? ht
    exact (show Tryd.prog.wantsStandIn t = false by simpa using List.all_eq_true.1 hall4 t hm)⟩)
  goes4
end Go.Proofs.YthiklnppmlmjeaaDoor
