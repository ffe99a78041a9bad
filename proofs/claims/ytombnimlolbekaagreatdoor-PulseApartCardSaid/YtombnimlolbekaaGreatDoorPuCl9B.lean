/- The law PulseApart of the program: its tied card holds: the function returns true at every input, and the input reads as it did. The condition: the package variables that the row lists are laid as it says. -/
import Derived.Test.YtombnimlolbekaaGreatDoorPuCl9A
namespace Go.Proofs.YtombnimlolbekaaGreatDoor
open Go Go.ChangeShapes Go.WideShapes Go.ChangeAt Go.RowKit Fw
set_option maxRecDepth 100000

theorem ip9 : (Rows.pulseApartRow.inPlace == Tryz.prog.inPlace 9) = true := by kernel_rfl
theorem un9 : (Rows.pulseApartRow.unfollowed == Tryz.prog.unfollowed 9) = true := by kernel_rfl
theorem rc9 : (Rows.pulseApartRow.recurses == Tryz.prog.recurses 9) = true := by kernel_rfl
theorem nm9 : (Rows.pulseApartRow.named == Tryz.prog.varsNamed 9) = true := by kernel_rfl
theorem closed9 : joinedFacts Tryz.prog 9 Tryz.f9 Rows.pulseApartSpec Rows.pulseApartRow = true := by
 unfold joinedFacts
 rw [ip9, un9, rc9, nm9, laidOut9]
 kernel_rfl
theorem named9 : Tryz.prog.funcNamed Rows.pulseApartRow.func = some 9 := by kernel_rfl

theorem said9 : Rows.PulseApartSaid :=
 OpenClaim.holds_of_wide 9 Tryz.f9 rfl rfl rfl rfl rfl rfl rfl ⟨rfl, rfl, rfl, rfl, rfl⟩ rfl rfl rfl rfl rfl named9 Tryz.func9 closed9
  (of_decide_eq_true (by kernel_rfl)) (by unfold Func.isWrapper; first | (rw [if_pos (by decide +kernel)]; kernel_rfl) | (rw [if_neg (by decide +kernel)]; exact ⟨rfl, rfl⟩))
  (fun os started H enc _ => lifted9 os started H enc)

theorem wf9 : Rows.pulseApartRow.wfByText (OpenSpec.ofChange Rows.pulseApartSpec) = true := by kernel_rfl
theorem main9 : Tryz.checked.prog.mainIs = some (true, "7a860128f4be0c306efa7928fc6875aa89492a6cd5710984e0f22598e12943d9".toList) := by kernel_rfl
theorem looks9 : false = Tryz.prog.looks [] := by kernel_rfl
theorem hall9 : (Tryz.f9.params.toList.all fun u => !Tryz.prog.wantsStandIn u) = true := by kernel_rfl
theorem goes9 : false = Rows.pulseApartRow.goesBy Tryz.checked.prog := by kernel_rfl
theorem card9 : Rows.PulseApartCardSaid :=
 Claim7.holds_tied_plain_at .later [] [.data, .data, .data, .data, .data, .pinned] true (true, "7a860128f4be0c306efa7928fc6875aa89492a6cd5710984e0f22598e12943d9") false
  said9 (fun _ h => by cases h) wf9 (fun _ h => by cases h) pulseApart_row_tie rfl ⟨rfl, rfl⟩ main9 rfl
  (fun f fn hf hfn => by
   obtain rfl : f = 9 := (Option.some.inj (named9.symm.trans hf)).symm
   obtain rfl : fn = Tryz.f9 := (Option.some.inj (Tryz.func9.symm.trans hfn)).symm
   exact ⟨looks9, fun j t ht => by
    have hm : t ∈ Tryz.f9.params.toList := by simpa using Array.mem_of_getElem? ht
    exact (show Tryz.prog.wantsStandIn t = false by simpa using List.all_eq_true.1 hall9 t hm)⟩)
  goes9
end Go.Proofs.YtombnimlolbekaaGreatDoor
