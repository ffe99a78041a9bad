/- The law GaragePlans of the program: its tied card holds: the function returns true at every input, and the input reads as it did. The condition: the package variables that the row lists are laid as it says. -/
import Derived.Test.YtdjkleaojdeepaaGreatDoorGaCl7A
namespace Go.Proofs.YtdjkleaojdeepaaGreatDoor
open Go Go.ChangeShapes Go.WideShapes Go.ChangeAt Go.RowKit Fw
set_option maxRecDepth 100000

theorem ip7 : (Rows.garagePlansRow.inPlace == Tryz.prog.inPlace 7) = true := by kernel_rfl
theorem un7 : (Rows.garagePlansRow.unfollowed == Tryz.prog.unfollowed 7) = true := by kernel_rfl
theorem rc7 : (Rows.garagePlansRow.recurses == Tryz.prog.recurses 7) = true := by kernel_rfl
theorem nm7 : (Rows.garagePlansRow.named == Tryz.prog.varsNamed 7) = true := by kernel_rfl
theorem closed7 : joinedFacts Tryz.prog 7 Tryz.f7 Rows.garagePlansSpec Rows.garagePlansRow = true := by
  unfold joinedFacts
  rw [ip7, un7, rc7, nm7, laidOut7]
  kernel_rfl
theorem named7 : Tryz.prog.funcNamed Rows.garagePlansRow.func = some 7 := by kernel_rfl

theorem said7 : Rows.GaragePlansSaid :=
  OpenClaim.holds_of_wide 7 Tryz.f7 rfl rfl rfl rfl rfl rfl rfl ⟨rfl, rfl, rfl, rfl, rfl⟩ rfl rfl rfl rfl rfl named7 Tryz.func7 closed7
    (of_decide_eq_true (by kernel_rfl)) (by unfold Func.isWrapper; first | (rw [if_pos (by decide +kernel)]; kernel_rfl) | (rw [if_neg (by decide +kernel)]; exact ⟨rfl, rfl⟩))
    (fun os started H enc _ => lifted7 os started H enc)

theorem wf7 : Rows.garagePlansRow.wfByText (OpenSpec.ofChange Rows.garagePlansSpec) = true := by kernel_rfl
theorem main7 : Tryz.checked.prog.mainIs = some (true, "9f6568706374681a00bf612260e588f9af86a50ce1b4cbebf59cb93707db0b3e".toList) := by kernel_rfl
theorem looks7 : false = Tryz.prog.looks [] := by kernel_rfl
theorem hall7 : (Tryz.f7.params.toList.all fun u => !Tryz.prog.wantsStandIn u) = true := by kernel_rfl
theorem goes7 : false = Rows.garagePlansRow.goesBy Tryz.checked.prog := by kernel_rfl
theorem card7 : Rows.GaragePlansCardSaid :=
  Claim7.holds_tied_plain_at .later [] [.data, .data, .data, .data, .funcsDeep, .funcs, .pinned] true (true, "9f6568706374681a00bf612260e588f9af86a50ce1b4cbebf59cb93707db0b3e") false
    said7 (fun _ h => by cases h) wf7 (fun _ h => by cases h) garagePlans_row_tie rfl ⟨rfl, rfl⟩ main7 rfl
    (fun f fn hf hfn => by
      obtain rfl : f = 7 := (Option.some.inj (named7.symm.trans hf)).symm
      obtain rfl : fn = Tryz.f7 := (Option.some.inj (Tryz.func7.symm.trans hfn)).symm
      exact ⟨looks7, fun j t ht => by
        have hm : t ∈ Tryz.f7.params.toList := by simpa using Array.mem_of_getElem? ht
        exact (show Tryz.prog.wantsStandIn t = false by simpa using List.all_eq_true.1 hall7 t hm)⟩)
    goes7
end Go.Proofs.YtdjkleaojdeepaaGreatDoor
