/- The law GarageReasons of the program: its tied card holds: the function returns true at every input, and the input reads as it did. The condition: the package variables that the row lists are laid as it says. -/
import Derived.Test.YtdjkleaojdeepaaGreatDoorGaCl3A
namespace Go.Proofs.YtdjkleaojdeepaaGreatDoor
open Go Go.ChangeShapes Go.WideShapes Go.ChangeAt Go.RowKit Fw
set_option maxRecDepth 100000

theorem ip3 : (Rows.garageReasonsRow.inPlace == Tryz.prog.inPlace 3) = true := by kernel_rfl
theorem un3 : (Rows.garageReasonsRow.unfollowed == Tryz.prog.unfollowed 3) = true := by kernel_rfl
theorem rc3 : (Rows.garageReasonsRow.recurses == Tryz.prog.recurses 3) = true := by kernel_rfl
theorem nm3 : (Rows.garageReasonsRow.named == Tryz.prog.varsNamed 3) = true := by kernel_rfl
theorem closed3 : joinedFacts Tryz.prog 3 Tryz.f3 Rows.garageReasonsSpec Rows.garageReasonsRow = true := by
  unfold joinedFacts
  rw [ip3, un3, rc3, nm3, laidOut3]
  kernel_rfl
theorem named3 : Tryz.prog.funcNamed Rows.garageReasonsRow.func = some 3 := by kernel_rfl

theorem said3 : Rows.GarageReasonsSaid :=
  OpenClaim.holds_of_wide 3 Tryz.f3 rfl rfl rfl rfl rfl rfl rfl ⟨rfl, rfl, rfl, rfl, rfl⟩ rfl rfl rfl rfl rfl named3 Tryz.func3 closed3
    (of_decide_eq_true (by kernel_rfl)) (by unfold Func.isWrapper; first | (rw [if_pos (by decide +kernel)]; kernel_rfl) | (rw [if_neg (by decide +kernel)]; exact ⟨rfl, rfl⟩))
    (fun os started H enc _ => lifted3 os started H enc)

theorem wf3 : Rows.garageReasonsRow.wfByText (OpenSpec.ofChange Rows.garageReasonsSpec) = true := by kernel_rfl
theorem main3 : Tryz.checked.prog.mainIs = some (true, "9f6568706374681a00bf612260e588f9af86a50ce1b4cbebf59cb93707db0b3e".toList) := by kernel_rfl
theorem looks3 : false = Tryz.prog.looks [] := by kernel_rfl
theorem hall3 : (Tryz.f3.params.toList.all fun u => !Tryz.prog.wantsStandIn u) = true := by kernel_rfl
theorem goes3 : false = Rows.garageReasonsRow.goesBy Tryz.checked.prog := by kernel_rfl
theorem card3 : Rows.GarageReasonsCardSaid :=
  Claim7.holds_tied_plain_at .later [] [.data, .data, .data, .data, .funcsDeep, .funcs, .pinned] true (true, "9f6568706374681a00bf612260e588f9af86a50ce1b4cbebf59cb93707db0b3e") false
    said3 (fun _ h => by cases h) wf3 (fun _ h => by cases h) garageReasons_row_tie rfl ⟨rfl, rfl⟩ main3 rfl
    (fun f fn hf hfn => by
      obtain rfl : f = 3 := (Option.some.inj (named3.symm.trans hf)).symm
      obtain rfl : fn = Tryz.f3 := (Option.some.inj (Tryz.func3.symm.trans hfn)).symm
      exact ⟨looks3, fun j t ht => by
        have hm : t ∈ Tryz.f3.params.toList := by simpa using Array.mem_of_getElem? ht
        exact (show Tryz.prog.wantsStandIn t = false by simpa using List.all_eq_true.1 hall3 t hm)⟩)
    goes3
end Go.Proofs.YtdjkleaojdeepaaGreatDoor
