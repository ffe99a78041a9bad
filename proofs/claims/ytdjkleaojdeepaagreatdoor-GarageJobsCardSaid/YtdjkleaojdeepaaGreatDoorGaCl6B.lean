/- The law GarageJobs of the program: its tied card holds: the function returns true at every input, and the input reads as it did. The condition: the package variables that the row lists are laid as it says. -/
import Derived.Test.YtdjkleaojdeepaaGreatDoorGaCl6A
namespace Go.Proofs.YtdjkleaojdeepaaGreatDoor
open Go Go.ChangeShapes Go.WideShapes Go.ChangeAt Go.RowKit Fw
set_option maxRecDepth 100000

theorem ip6 : (Rows.garageJobsRow.inPlace == Tryz.prog.inPlace 6) = true := by kernel_rfl
theorem un6 : (Rows.garageJobsRow.unfollowed == Tryz.prog.unfollowed 6) = true := by kernel_rfl
theorem rc6 : (Rows.garageJobsRow.recurses == Tryz.prog.recurses 6) = true := by kernel_rfl
theorem nm6 : (Rows.garageJobsRow.named == Tryz.prog.varsNamed 6) = true := by kernel_rfl
theorem closed6 : joinedFacts Tryz.prog 6 Tryz.f6 Rows.garageJobsSpec Rows.garageJobsRow = true := by
  unfold joinedFacts
  rw [ip6, un6, rc6, nm6, laidOut6]
  kernel_rfl
theorem named6 : Tryz.prog.funcNamed Rows.garageJobsRow.func = some 6 := by kernel_rfl

theorem said6 : Rows.GarageJobsSaid :=
  OpenClaim.holds_of_wide 6 Tryz.f6 rfl rfl rfl rfl rfl rfl rfl ⟨rfl, rfl, rfl, rfl, rfl⟩ rfl rfl rfl rfl rfl named6 Tryz.func6 closed6
    (of_decide_eq_true (by kernel_rfl)) (by unfold Func.isWrapper; first | (rw [if_pos (by decide +kernel)]; kernel_rfl) | (rw [if_neg (by decide +kernel)]; exact ⟨rfl, rfl⟩))
    (fun os started H enc _ => lifted6 os started H enc)

theorem wf6 : Rows.garageJobsRow.wfByText (OpenSpec.ofChange Rows.garageJobsSpec) = true := by kernel_rfl
theorem main6 : Tryz.checked.prog.mainIs = some (true, "9f6568706374681a00bf612260e588f9af86a50ce1b4cbebf59cb93707db0b3e".toList) := by kernel_rfl
theorem looks6 : false = Tryz.prog.looks [] := by kernel_rfl
theorem hall6 : (Tryz.f6.params.toList.all fun u => !Tryz.prog.wantsStandIn u) = true := by kernel_rfl
theorem goes6 : false = Rows.garageJobsRow.goesBy Tryz.checked.prog := by kernel_rfl
theorem card6 : Rows.GarageJobsCardSaid :=
  Claim7.holds_tied_plain_at .later [] [.data, .data, .data, .data, .funcsDeep, .funcs, .pinned] true (true, "9f6568706374681a00bf612260e588f9af86a50ce1b4cbebf59cb93707db0b3e") false
    said6 (fun _ h => by cases h) wf6 (fun _ h => by cases h) garageJobs_row_tie rfl ⟨rfl, rfl⟩ main6 rfl
    (fun f fn hf hfn => by
      obtain rfl : f = 6 := (Option.some.inj (named6.symm.trans hf)).symm
      obtain rfl : fn = Tryz.f6 := (Option.some.inj (Tryz.func6.symm.trans hfn)).symm
      exact ⟨looks6, fun j t ht => by
        have hm : t ∈ Tryz.f6.params.toList := by simpa using Array.mem_of_getElem? ht
        exact (show Tryz.prog.wantsStandIn t = false by simpa using List.all_eq_true.1 hall6 t hm)⟩)
    goes6
end Go.Proofs.YtdjkleaojdeepaaGreatDoor
