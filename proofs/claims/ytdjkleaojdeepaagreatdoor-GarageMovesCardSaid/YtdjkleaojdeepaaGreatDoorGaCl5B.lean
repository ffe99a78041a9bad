/- The law GarageMoves of the program: its tied card holds: the function returns true at every input, and the input reads as it did. The condition: the package variables that the row lists are laid as it says. -/
import Derived.Test.YtdjkleaojdeepaaGreatDoorGaCl5A
namespace Go.Proofs.YtdjkleaojdeepaaGreatDoor
open Go Go.ChangeShapes Go.WideShapes Go.ChangeAt Go.RowKit Fw
set_option maxRecDepth 100000

theorem ip5 : (Rows.garageMovesRow.inPlace == Tryz.prog.inPlace 5) = true := by kernel_rfl
theorem un5 : (Rows.garageMovesRow.unfollowed == Tryz.prog.unfollowed 5) = true := by kernel_rfl
theorem rc5 : (Rows.garageMovesRow.recurses == Tryz.prog.recurses 5) = true := by kernel_rfl
theorem nm5 : (Rows.garageMovesRow.named == Tryz.prog.varsNamed 5) = true := by kernel_rfl
theorem closed5 : joinedFacts Tryz.prog 5 Tryz.f5 Rows.garageMovesSpec Rows.garageMovesRow = true := by
  unfold joinedFacts
  rw [ip5, un5, rc5, nm5, laidOut5]
  kernel_rfl
theorem named5 : Tryz.prog.funcNamed Rows.garageMovesRow.func = some 5 := by kernel_rfl

theorem said5 : Rows.GarageMovesSaid :=
  OpenClaim.holds_of_wide 5 Tryz.f5 rfl rfl rfl rfl rfl rfl rfl ⟨rfl, rfl, rfl, rfl, rfl⟩ rfl rfl rfl rfl rfl named5 Tryz.func5 closed5
    (of_decide_eq_true (by kernel_rfl)) (by unfold Func.isWrapper; first | (rw [if_pos (by decide +kernel)]; kernel_rfl) | (rw [if_neg (by decide +kernel)]; exact ⟨rfl, rfl⟩))
    (fun os started H enc _ => lifted5 os started H enc)

theorem wf5 : Rows.garageMovesRow.wfByText (OpenSpec.ofChange Rows.garageMovesSpec) = true := by kernel_rfl
theorem main5 : Tryz.checked.prog.mainIs = some (true, "9f6568706374681a00bf612260e588f9af86a50ce1b4cbebf59cb93707db0b3e".toList) := by kernel_rfl
theorem looks5 : false = Tryz.prog.looks [] := by kernel_rfl
theorem hall5 : (Tryz.f5.params.toList.all fun u => !Tryz.prog.wantsStandIn u) = true := by kernel_rfl
theorem goes5 : false = Rows.garageMovesRow.goesBy Tryz.checked.prog := by kernel_rfl
theorem card5 : Rows.GarageMovesCardSaid :=
  Claim7.holds_tied_plain_at .later [] [.data, .data, .data, .data, .funcsDeep, .funcs, .pinned] true (true, "9f6568706374681a00bf612260e588f9af86a50ce1b4cbebf59cb93707db0b3e") false
    said5 (fun _ h => by cases h) wf5 (fun _ h => by cases h) garageMoves_row_tie rfl ⟨rfl, rfl⟩ main5 rfl
    (fun f fn hf hfn => by
      obtain rfl : f = 5 := (Option.some.inj (named5.symm.trans hf)).symm
      obtain rfl : fn = Tryz.f5 := (Option.some.inj (Tryz.func5.symm.trans hfn)).symm
      exact ⟨looks5, fun j t ht => by
        have hm : t ∈ Tryz.f5.params.toList := by simpa using Array.mem_of_getElem? ht
        exact (show Tryz.prog.wantsStandIn t = false by simpa using List.all_eq_true.1 hall5 t hm)⟩)
    goes5
end Go.Proofs.YtdjkleaojdeepaaGreatDoor
