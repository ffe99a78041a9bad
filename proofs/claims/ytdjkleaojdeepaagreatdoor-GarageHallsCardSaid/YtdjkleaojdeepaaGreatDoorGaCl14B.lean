/- The law GarageHalls of the program: its tied card holds: the function returns true at every input, and the input reads as it did. The condition: the package variables that the row lists are laid as it says. -/
import Derived.Test.YtdjkleaojdeepaaGreatDoorGaCl14A
namespace Go.Proofs.YtdjkleaojdeepaaGreatDoor
open Go Go.ChangeShapes Go.WideShapes Go.ChangeAt Go.RowKit Fw
set_option maxRecDepth 100000

theorem ip14 : (Rows.garageHallsRow.inPlace == Tryz.prog.inPlace 14) = true := by kernel_rfl
theorem un14 : (Rows.garageHallsRow.unfollowed == Tryz.prog.unfollowed 14) = true := by kernel_rfl
theorem rc14 : (Rows.garageHallsRow.recurses == Tryz.prog.recurses 14) = true := by kernel_rfl
theorem nm14 : (Rows.garageHallsRow.named == Tryz.prog.varsNamed 14) = true := by kernel_rfl
theorem closed14 : joinedFacts Tryz.prog 14 Tryz.f14 Rows.garageHallsSpec Rows.garageHallsRow = true := by
  unfold joinedFacts
  rw [ip14, un14, rc14, nm14, laidOut14]
  kernel_rfl
theorem named14 : Tryz.prog.funcNamed Rows.garageHallsRow.func = some 14 := by kernel_rfl

theorem said14 : Rows.GarageHallsSaid :=
  OpenClaim.holds_of_wide 14 Tryz.f14 rfl rfl rfl rfl rfl rfl rfl ⟨rfl, rfl, rfl, rfl, rfl⟩ rfl rfl rfl rfl rfl named14 Tryz.func14 closed14
    (of_decide_eq_true (by kernel_rfl)) (by unfold Func.isWrapper; first | (rw [if_pos (by decide +kernel)]; kernel_rfl) | (rw [if_neg (by decide +kernel)]; exact ⟨rfl, rfl⟩))
    (fun os started H enc _ => lifted14 os started H enc)

theorem wf14 : Rows.garageHallsRow.wfByText (OpenSpec.ofChange Rows.garageHallsSpec) = true := by kernel_rfl
theorem main14 : Tryz.checked.prog.mainIs = some (true, "9f6568706374681a00bf612260e588f9af86a50ce1b4cbebf59cb93707db0b3e".toList) := by kernel_rfl
theorem looks14 : false = Tryz.prog.looks [] := by kernel_rfl
theorem hall14 : (Tryz.f14.params.toList.all fun u => !Tryz.prog.wantsStandIn u) = true := by kernel_rfl
theorem goes14 : false = Rows.garageHallsRow.goesBy Tryz.checked.prog := by kernel_rfl
theorem card14 : Rows.GarageHallsCardSaid :=
  Claim7.holds_tied_plain_at .later [] [.data, .data, .data, .data, .funcsDeep, .funcs, .pinned] true (true, "9f6568706374681a00bf612260e588f9af86a50ce1b4cbebf59cb93707db0b3e") false
    said14 (fun _ h => by cases h) wf14 (fun _ h => by cases h) garageHalls_row_tie rfl ⟨rfl, rfl⟩ main14 rfl
    (fun f fn hf hfn => by
      obtain rfl : f = 14 := (Option.some.inj (named14.symm.trans hf)).symm
      obtain rfl : fn = Tryz.f14 := (Option.some.inj (Tryz.func14.symm.trans hfn)).symm
      exact ⟨looks14, fun j t ht => by
        have hm : t ∈ Tryz.f14.params.toList := by simpa using Array.mem_of_getElem? ht
        exact (show Tryz.prog.wantsStandIn t = false by simpa using List.all_eq_true.1 hall14 t hm)⟩)
    goes14
end Go.Proofs.YtdjkleaojdeepaaGreatDoor
