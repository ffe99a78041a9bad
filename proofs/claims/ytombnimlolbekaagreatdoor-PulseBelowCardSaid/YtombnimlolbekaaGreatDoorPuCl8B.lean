/- The law PulseBelow of the program: its tied card holds: the function returns true at every input, and the input reads as it did. The condition: the package variables that the row lists are laid as it says. -/
import Derived.Test.YtombnimlolbekaaGreatDoorPuCl8A
namespace Go.Proofs.YtombnimlolbekaaGreatDoor
open Go Go.ChangeShapes Go.WideShapes Go.ChangeAt Go.RowKit Fw
set_option maxRecDepth 100000

theorem ip8 : (Rows.pulseBelowRow.inPlace == Tryz.prog.inPlace 8) = true := by kernel_rfl
theorem un8 : (Rows.pulseBelowRow.unfollowed == Tryz.prog.unfollowed 8) = true := by kernel_rfl
theorem rc8 : (Rows.pulseBelowRow.recurses == Tryz.prog.recurses 8) = true := by kernel_rfl
theorem nm8 : (Rows.pulseBelowRow.named == Tryz.prog.varsNamed 8) = true := by kernel_rfl
theorem closed8 : joinedFacts Tryz.prog 8 Tryz.f8 Rows.pulseBelowSpec Rows.pulseBelowRow = true := by
 unfold joinedFacts
 rw [ip8, un8, rc8, nm8, laidOut8]
 kernel_rfl
theorem named8 : Tryz.prog.funcNamed Rows.pulseBelowRow.func = some 8 := by kernel_rfl

theorem said8 : Rows.PulseBelowSaid :=
 OpenClaim.holds_of_wide 8 Tryz.f8 rfl rfl rfl rfl rfl rfl rfl ⟨rfl, rfl, rfl, rfl, rfl⟩ rfl rfl rfl rfl rfl named8 Tryz.func8 closed8
  (of_decide_eq_true (by kernel_rfl)) (by unfold Func.isWrapper; first | (rw [if_pos (by decide +kernel)]; kernel_rfl) | (rw [if_neg (by decide +kernel)]; exact ⟨rfl, rfl⟩))
  (fun os started H enc _ => lifted8 os started H enc)

theorem wf8 : Rows.pulseBelowRow.wfByText (OpenSpec.ofChange Rows.pulseBelowSpec) = true := by kernel_rfl
theorem main8 : Tryz.checked.prog.mainIs = some (true, "7a860128f4be0c306efa7928fc6875aa89492a6cd5710984e0f22598e12943d9".toList) := by kernel_rfl
theorem looks8 : false = Tryz.prog.looks [] := by kernel_rfl
theorem hall8 : (Tryz.f8.params.toList.all fun u => !Tryz.prog.wantsStandIn u) = true := by kernel_rfl
theorem goes8 : false = Rows.pulseBelowRow.goesBy Tryz.checked.prog := by kernel_rfl
theorem card8 : Rows.PulseBelowCardSaid :=
 Claim7.holds_tied_plain_at .later [] [.data, .data, .data, .data, .data, .pinned] true (true, "7a860128f4be0c306efa7928fc6875aa89492a6cd5710984e0f22598e12943d9") false
  said8 (fun _ h => by cases h) wf8 (fun _ h => by cases h) pulseBelow_row_tie rfl ⟨rfl, rfl⟩ main8 rfl
  (fun f fn hf hfn => by
   obtain rfl : f = 8 := (Option.some.inj (named8.symm.trans hf)).symm
   obtain rfl : fn = Tryz.f8 := (Option.some.inj (Tryz.func8.symm.trans hfn)).symm
   exact ⟨looks8, fun j t ht => by
    have hm : t ∈ Tryz.f8.params.toList := by simpa using Array.mem_of_getElem? ht
    exact (show Tryz.prog.wantsStandIn t = false by simpa using List.all_eq_true.1 hall8 t hm)⟩)
  goes8
end Go.Proofs.YtombnimlolbekaaGreatDoor
