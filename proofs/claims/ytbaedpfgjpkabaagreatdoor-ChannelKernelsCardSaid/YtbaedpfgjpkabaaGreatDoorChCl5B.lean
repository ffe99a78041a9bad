/- The law ChannelKernels of the program: its tied card holds: the function returns true at every input, and the input reads as it did. The condition: the package variables that the row lists are laid as it says. -/
import Derived.Test.YtbaedpfgjpkabaaGreatDoorChCl5A
namespace Go.Proofs.YtbaedpfgjpkabaaGreatDoor
open Go Go.ChangeShapes Go.WideShapes Go.ChangeAt Go.RowKit Fw
set_option maxRecDepth 100000

theorem ip5 : (Rows.channelKernelsRow.inPlace == Tryz.prog.inPlace 5) = true := by kernel_rfl
theorem un5 : (Rows.channelKernelsRow.unfollowed == Tryz.prog.unfollowed 5) = true := by kernel_rfl
theorem rc5 : (Rows.channelKernelsRow.recurses == Tryz.prog.recurses 5) = true := by kernel_rfl
theorem nm5 : (Rows.channelKernelsRow.named == Tryz.prog.varsNamed 5) = true := by kernel_rfl
theorem closed5 : joinedFacts Tryz.prog 5 Tryz.f5 Rows.channelKernelsSpec Rows.channelKernelsRow = true := by
  unfold joinedFacts
  rw [ip5, un5, rc5, nm5, laidOut5]
  kernel_rfl
theorem named5 : Tryz.prog.funcNamed Rows.channelKernelsRow.func = some 5 := by kernel_rfl

theorem said5 : Rows.ChannelKernelsSaid :=
  OpenClaim.holds_of_wide 5 Tryz.f5 rfl rfl rfl rfl rfl rfl rfl ⟨rfl, rfl, rfl, rfl, rfl⟩ rfl rfl rfl rfl rfl named5 Tryz.func5 closed5
    (of_decide_eq_true (by kernel_rfl)) (by unfold Func.isWrapper; first | (rw [if_pos (by decide +kernel)]; kernel_rfl) | (rw [if_neg (by decide +kernel)]; exact ⟨rfl, rfl⟩))
    (fun os started H enc _ => lifted5 os started H enc)

theorem wf5 : Rows.channelKernelsRow.wfByText (OpenSpec.ofChange Rows.channelKernelsSpec) = true := by kernel_rfl
theorem main5 : Tryz.checked.prog.mainIs = some (true, "60d6ab7a3705e4d389f432389cc0b257e1dd0c53e258f9a43d48679988e3a89d".toList) := by kernel_rfl
theorem looks5 : false = Tryz.prog.looks [] := by kernel_rfl
theorem hall5 : (Tryz.f5.params.toList.all fun u => !Tryz.prog.wantsStandIn u) = true := by kernel_rfl
theorem goes5 : false = Rows.channelKernelsRow.goesBy Tryz.checked.prog := by kernel_rfl
theorem card5 : Rows.ChannelKernelsCardSaid :=
  Claim7.holds_tied_plain_at .later [] [.data, .data, .data, .widerDeep, .widerDeep, .funcs, .funcs, .funcs] true (true, "60d6ab7a3705e4d389f432389cc0b257e1dd0c53e258f9a43d48679988e3a89d") false
    said5 (fun _ h => by cases h) wf5 (fun _ h => by cases h) channelKernels_row_tie rfl ⟨rfl, rfl⟩ main5 rfl
    (fun f fn hf hfn => by
      obtain rfl : f = 5 := (Option.some.inj (named5.symm.trans hf)).symm
      obtain rfl : fn = Tryz.f5 := (Option.some.inj (Tryz.func5.symm.trans hfn)).symm
      exact ⟨looks5, fun j t ht => by
        have hm : t ∈ Tryz.f5.params.toList := by simpa using Array.mem_of_getElem? ht
        exact (show Tryz.prog.wantsStandIn t = false by simpa using List.all_eq_true.1 hall5 t hm)⟩)
    goes5
end Go.Proofs.YtbaedpfgjpkabaaGreatDoor
