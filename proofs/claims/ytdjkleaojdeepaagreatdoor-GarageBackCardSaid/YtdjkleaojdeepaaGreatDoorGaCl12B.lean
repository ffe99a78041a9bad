/- The law GarageBack of the program: its tied card holds: the function returns true at every input, and the input reads as it did. The condition: the package variables that the row lists are laid as it says. -/
import Derived.Test.YtdjkleaojdeepaaGreatDoorGaCl12A
namespace Go.Proofs.YtdjkleaojdeepaaGreatDoor
open Go Go.ChangeShapes Go.WideShapes Go.ChangeAt Go.RowKit Fw
set_option maxRecDepth 100000

theorem ip12 : (Rows.garageBackRow.inPlace == Tryz.prog.inPlace 12) = true := by kernel_rfl
theorem un12 : (Rows.garageBackRow.unfollowed == Tryz.prog.unfollowed 12) = true := by kernel_rfl
theorem rc12 : (Rows.garageBackRow.recurses == Tryz.prog.recurses 12) = true := by kernel_rfl
theorem nm12 : (Rows.garageBackRow.named == Tryz.prog.varsNamed 12) = true := by kernel_rfl
theorem closed12 : joinedFacts Tryz.prog 12 Tryz.f12 Rows.garageBackSpec Rows.garageBackRow = true := by
 unfold joinedFacts
 rw [ip12, un12, rc12, nm12, laidOut12]
 kernel_rfl
theorem named12 : Tryz.prog.funcNamed Rows.garageBackRow.func = some 12 := by kernel_rfl

theorem said12 : Rows.GarageBackSaid :=
 OpenClaim.holds_of_wide 12 Tryz.f12 rfl rfl rfl rfl rfl rfl rfl ⟨rfl, rfl, rfl, rfl, rfl⟩ rfl rfl rfl rfl rfl named12 Tryz.func12 closed12
  (of_decide_eq_true (by kernel_rfl)) (by unfold Func.isWrapper; first | (rw [if_pos (by decide +kernel)]; kernel_rfl) | (rw [if_neg (by decide +kernel)]; exact ⟨rfl, rfl⟩))
  (fun os started H enc _ => lifted12 os started H enc)

theorem wf12 : Rows.garageBackRow.wfByText (OpenSpec.ofChange Rows.garageBackSpec) = true := by kernel_rfl
theorem main12 : Tryz.checked.prog.mainIs = some (true, "9f6568706374681a00bf612260e588f9af86a50ce1b4cbebf59cb93707db0b3e".toList) := by kernel_rfl
theorem looks12 : false = Tryz.prog.looks [] := by kernel_rfl
theorem hall12 : (Tryz.f12.params.toList.all fun u => !Tryz.prog.wantsStandIn u) = true := by kernel_rfl
theorem goes12 : false = Rows.garageBackRow.goesBy Tryz.checked.prog := by kernel_rfl
theorem card12 : Rows.GarageBackCardSaid :=
 Claim7.holds_tied_plain_at .later [] [.data, .data, .data, .data, .funcsDeep, .funcs, .pinned] true (true, "9f6568706374681a00bf612260e588f9af86a50ce1b4cbebf59cb93707db0b3e") false
  said12 (fun _ h => by cases h) wf12 (fun _ h => by cases h) garageBack_row_tie rfl ⟨rfl, rfl⟩ main12 rfl
  (fun f fn hf hfn => by
   obtain rfl : f = 12 := (Option.some.inj (named12.symm.trans hf)).symm
   obtain rfl : fn = Tryz.f12 := (Option.some.inj (Tryz.func12.symm.trans hfn)).symm
   exact ⟨looks12, fun j t ht => by
    have hm : t ∈ Tryz.f12.params.toList := by simpa using Array.mem_of_getElem? ht
    exact (show Tryz.prog.wantsStandIn t = false by simpa using List.all_eq_true.1 hall12 t hm)⟩)
  goes12
end Go.Proofs.YtdjkleaojdeepaaGreatDoor
