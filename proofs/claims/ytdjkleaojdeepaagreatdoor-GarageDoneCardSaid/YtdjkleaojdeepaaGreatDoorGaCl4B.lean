/- The law GarageDone of the program: its tied card holds: the function returns true at every input, and the input reads as it did. The condition: the package variables that the row lists are laid as it says. -/
import Derived.Test.YtdjkleaojdeepaaGreatDoorGaCl4A
namespace Go.Proofs.YtdjkleaojdeepaaGreatDoor
open Go Go.ChangeShapes Go.WideShapes Go.ChangeAt Go.RowKit Fw
set_option maxRecDepth 100000

theorem ip4 : (Rows.garageDoneRow.inPlace == Tryz.prog.inPlace 4) = true := by kernel_rfl
theorem un4 : (Rows.garageDoneRow.unfollowed == Tryz.prog.unfollowed 4) = true := by kernel_rfl
theorem rc4 : (Rows.garageDoneRow.recurses == Tryz.prog.recurses 4) = true := by kernel_rfl
theorem nm4 : (Rows.garageDoneRow.named == Tryz.prog.varsNamed 4) = true := by kernel_rfl
theorem closed4 : joinedFacts Tryz.prog 4 Tryz.f4 Rows.garageDoneSpec Rows.garageDoneRow = true := by
  unfold joinedFacts
  rw [ip4, un4, rc4, nm4, laidOut4]
  kernel_rfl
theorem named4 : Tryz.prog.funcNamed Rows.garageDoneRow.func = some 4 := by kernel_rfl

theorem said4 : Rows.GarageDoneSaid :=
  OpenClaim.holds_of_wide 4 Tryz.f4 rfl rfl rfl rfl rfl rfl rfl ⟨rfl, rfl, rfl, rfl, rfl⟩ rfl rfl rfl rfl rfl named4 Tryz.func4 closed4
    (of_decide_eq_true (by kernel_rfl)) (by unfold Func.isWrapper; first | (rw [if_pos (by decide +kernel)]; kernel_rfl) | (rw [if_neg (by decide +kernel)]; exact ⟨rfl, rfl⟩))
    (fun os started H enc _ => lifted4 os started H enc)

theorem wf4 : Rows.garageDoneRow.wfByText (OpenSpec.ofChange Rows.garageDoneSpec) = true := by kernel_rfl
theorem main4 : Tryz.checked.prog.mainIs = some (true, "9f6568706374681a00bf612260e588f9af86a50ce1b4cbebf59cb93707db0b3e".toList) := by kernel_rfl
theorem looks4 : false = Tryz.prog.looks [] := by kernel_rfl
theorem hall4 : (Tryz.f4.params.toList.all fun u => !Tryz.prog.wantsStandIn u) = true := by kernel_rfl
theorem goes4 : false = Rows.garageDoneRow.goesBy Tryz.checked.prog := by kernel_rfl
theorem card4 : Rows.GarageDoneCardSaid :=
  Claim7.holds_tied_plain_at .later [] [.data, .data, .data, .data, .funcsDeep, .funcs, .pinned] true (true, "9f6568706374681a00bf612260e588f9af86a50ce1b4cbebf59cb93707db0b3e") false
    said4 (fun _ h => by cases h) wf4 (fun _ h => by cases h) garageDone_row_tie rfl ⟨rfl, rfl⟩ main4 rfl
    (fun f fn hf hfn => by
      obtain rfl : f = 4 := (Option.some.inj (named4.symm.trans hf)).symm
      obtain rfl : fn = Tryz.f4 := (Option.some.inj (Tryz.func4.symm.trans hfn)).symm
      exact ⟨looks4, fun j t ht => by
        have hm : t ∈ Tryz.f4.params.toList := by simpa using Array.mem_of_getElem? ht
        exact (show Tryz.prog.wantsStandIn t = false by simpa using List.all_eq_true.1 hall4 t hm)⟩)
    goes4
end Go.Proofs.YtdjkleaojdeepaaGreatDoor
