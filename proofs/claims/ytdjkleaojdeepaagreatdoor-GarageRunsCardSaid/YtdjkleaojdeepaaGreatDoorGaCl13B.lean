/- The law GarageRuns of the program: its tied card holds: the function returns true at every input, and the input reads as it did. The condition: the package variables that the row lists are laid as it says. -/
import Derived.Test.YtdjkleaojdeepaaGreatDoorGaCl13A
namespace Go.Proofs.YtdjkleaojdeepaaGreatDoor
open Go Go.ChangeShapes Go.WideShapes Go.ChangeAt Go.RowKit Fw
set_option maxRecDepth 100000

theorem ip13 : (Rows.garageRunsRow.inPlace == Tryz.prog.inPlace 13) = true := by kernel_rfl
theorem un13 : (Rows.garageRunsRow.unfollowed == Tryz.prog.unfollowed 13) = true := by kernel_rfl
theorem rc13 : (Rows.garageRunsRow.recurses == Tryz.prog.recurses 13) = true := by kernel_rfl
theorem nm13 : (Rows.garageRunsRow.named == Tryz.prog.varsNamed 13) = true := by kernel_rfl
theorem closed13 : joinedFacts Tryz.prog 13 Tryz.f13 Rows.garageRunsSpec Rows.garageRunsRow = true := by
  unfold joinedFacts
  rw [ip13, un13, rc13, nm13, laidOut13]
  kernel_rfl
theorem named13 : Tryz.prog.funcNamed Rows.garageRunsRow.func = some 13 := by kernel_rfl

theorem said13 : Rows.GarageRunsSaid :=
  OpenClaim.holds_of_wide 13 Tryz.f13 rfl rfl rfl rfl rfl rfl rfl ⟨rfl, rfl, rfl, rfl, rfl⟩ rfl rfl rfl rfl rfl named13 Tryz.func13 closed13
    (of_decide_eq_true (by kernel_rfl)) (by unfold Func.isWrapper; first | (rw [if_pos (by decide +kernel)]; kernel_rfl) | (rw [if_neg (by decide +kernel)]; exact ⟨rfl, rfl⟩))
    (fun os started H enc _ => lifted13 os started H enc)

theorem wf13 : Rows.garageRunsRow.wfByText (OpenSpec.ofChange Rows.garageRunsSpec) = true := by kernel_rfl
theorem main13 : Tryz.checked.prog.mainIs = some (true, "9f6568706374681a00bf612260e588f9af86a50ce1b4cbebf59cb93707db0b3e".toList) := by kernel_rfl
theorem looks13 : false = Tryz.prog.looks [] := by kernel_rfl
theorem hall13 : (Tryz.f13.params.toList.all fun u => !Tryz.prog.wantsStandIn u) = true := by kernel_rfl
theorem goes13 : false = Rows.garageRunsRow.goesBy Tryz.checked.prog := by kernel_rfl
theorem card13 : Rows.GarageRunsCardSaid :=
  Claim7.holds_tied_plain_at .later [] [.data, .data, .data, .data, .funcsDeep, .funcs, .pinned] true (true, "9f6568706374681a00bf612260e588f9af86a50ce1b4cbebf59cb93707db0b3e") false
    said13 (fun _ h => by cases h) wf13 (fun _ h => by cases h) garageRuns_row_tie rfl ⟨rfl, rfl⟩ main13 rfl
    (fun f fn hf hfn => by
      obtain rfl : f = 13 := (Option.some.inj (named13.symm.trans hf)).symm
      obtain rfl : fn = Tryz.f13 := (Option.some.inj (Tryz.func13.symm.trans hfn)).symm
      exact ⟨looks13, fun j t ht => by
        have hm : t ∈ Tryz.f13.params.toList := by simpa using Array.mem_of_getElem? ht
        exact (show Tryz.prog.wantsStandIn t = false by simpa using List.all_eq_true.1 hall13 t hm)⟩)
    goes13
end Go.Proofs.YtdjkleaojdeepaaGreatDoor
