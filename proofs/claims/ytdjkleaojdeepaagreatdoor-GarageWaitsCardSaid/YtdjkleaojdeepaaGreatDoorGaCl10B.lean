/- The law GarageWaits of the program: its tied card holds: the function returns true at every input, and the input reads as it did. The condition: the package variables that the row lists are laid as it says. -/
import Derived.Test.YtdjkleaojdeepaaGreatDoorGaCl10A
namespace Go.Proofs.YtdjkleaojdeepaaGreatDoor
open Go Go.ChangeShapes Go.WideShapes Go.ChangeAt Go.RowKit Fw
set_option maxRecDepth 100000

theorem ip10 : (Rows.garageWaitsRow.inPlace == Tryz.prog.inPlace 10) = true := by kernel_rfl
theorem un10 : (Rows.garageWaitsRow.unfollowed == Tryz.prog.unfollowed 10) = true := by kernel_rfl
theorem rc10 : (Rows.garageWaitsRow.recurses == Tryz.prog.recurses 10) = true := by kernel_rfl
theorem nm10 : (Rows.garageWaitsRow.named == Tryz.prog.varsNamed 10) = true := by kernel_rfl
theorem closed10 : joinedFacts Tryz.prog 10 Tryz.f10 Rows.garageWaitsSpec Rows.garageWaitsRow = true := by
 unfold joinedFacts
 rw [ip10, un10, rc10, nm10, laidOut10]
 kernel_rfl
theorem named10 : Tryz.prog.funcNamed Rows.garageWaitsRow.func = some 10 := by kernel_rfl

theorem said10 : Rows.GarageWaitsSaid :=
 OpenClaim.holds_of_wide 10 Tryz.f10 rfl rfl rfl rfl rfl rfl rfl ⟨rfl, rfl, rfl, rfl, rfl⟩ rfl rfl rfl rfl rfl named10 Tryz.func10 closed10
  (of_decide_eq_true (by kernel_rfl)) (by unfold Func.isWrapper; first | (rw [if_pos (by decide +kernel)]; kernel_rfl) | (rw [if_neg (by decide +kernel)]; exact ⟨rfl, rfl⟩))
  (fun os started H enc _ => lifted10 os started H enc)

theorem wf10 : Rows.garageWaitsRow.wfByText (OpenSpec.ofChange Rows.garageWaitsSpec) = true := by kernel_rfl
theorem main10 : Tryz.checked.prog.mainIs = some (true, "9f6568706374681a00bf612260e588f9af86a50ce1b4cbebf59cb93707db0b3e".toList) := by kernel_rfl
theorem looks10 : false = Tryz.prog.looks [] := by kernel_rfl
theorem hall10 : (Tryz.f10.params.toList.all fun u => !Tryz.prog.wantsStandIn u) = true := by kernel_rfl
theorem goes10 : false = Rows.garageWaitsRow.goesBy Tryz.checked.prog := by kernel_rfl
theorem card10 : Rows.GarageWaitsCardSaid :=
 Claim7.holds_tied_plain_at .later [] [.data, .data, .data, .data, .funcsDeep, .funcs, .pinned] true (true, "9f6568706374681a00bf612260e588f9af86a50ce1b4cbebf59cb93707db0b3e") false
  said10 (fun _ h => by cases h) wf10 (fun _ h => by cases h) garageWaits_row_tie rfl ⟨rfl, rfl⟩ main10 rfl
  (fun f fn hf hfn => by
   obtain rfl : f = 10 := (Option.some.inj (named10.symm.trans hf)).symm
   obtain rfl : fn = Tryz.f10 := (Option.some.inj (Tryz.func10.symm.trans hfn)).symm
   exact ⟨looks10, fun j t ht => by
    have hm : t ∈ Tryz.f10.params.toList := by simpa using Array.mem_of_getElem? ht
    exact (show Tryz.prog.wantsStandIn t = false by simpa using List.all_eq_true.1 hall10 t hm)⟩)
  goes10
end Go.Proofs.YtdjkleaojdeepaaGreatDoor
