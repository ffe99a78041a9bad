/- The law ChannelTrue of the program: its tied card holds: the function returns true at every input, and the input reads as it did. The condition: the package variables that the row lists are laid as it says. -/
import Derived.Test.YtbaedpfgjpkabaaGreatDoorChCl10A
namespace Go.Proofs.YtbaedpfgjpkabaaGreatDoor
open Go Go.ChangeShapes Go.WideShapes Go.ChangeAt Go.RowKit Fw
set_option maxRecDepth 100000

theorem ip10 : (Rows.channelTrueRow.inPlace == Tryz.prog.inPlace 10) = true := by kernel_rfl
theorem un10 : (Rows.channelTrueRow.unfollowed == Tryz.prog.unfollowed 10) = true := by kernel_rfl
theorem rc10 : (Rows.channelTrueRow.recurses == Tryz.prog.recurses 10) = true := by kernel_rfl
theorem nm10 : (Rows.channelTrueRow.named == Tryz.prog.varsNamed 10) = true := by kernel_rfl
theorem closed10 : joinedFacts Tryz.prog 10 Tryz.f10 Rows.channelTrueSpec Rows.channelTrueRow = true := by
  unfold joinedFacts
  rw [ip10, un10, rc10, nm10, laidOut10]
  kernel_rfl
theorem named10 : Tryz.prog.funcNamed Rows.channelTrueRow.func = some 10 := by kernel_rfl

theorem said10 : Rows.ChannelTrueSaid :=
  OpenClaim.holds_of_wide 10 Tryz.f10 rfl rfl rfl rfl rfl rfl rfl ⟨rfl, rfl, rfl, rfl, rfl⟩ rfl rfl rfl rfl rfl named10 Tryz.func10 closed10
    (of_decide_eq_true (by kernel_rfl)) (by unfold Func.isWrapper; first | (rw [if_pos (by decide +kernel)]; kernel_rfl) | (rw [if_neg (by decide +kernel)]; exact ⟨rfl, rfl⟩))
    (fun os started H enc _ => lifted10 os started H enc)

theorem wf10 : Rows.channelTrueRow.wfByText (OpenSpec.ofChange Rows.channelTrueSpec) = true := by kernel_rfl
theorem main10 : Tryz.checked.prog.mainIs = some (true, "60d6ab7a3705e4d389f432389cc0b257e1dd0c53e258f9a43d48679988e3a89d".toList) := by kernel_rfl
theorem looks10 : false = Tryz.prog.looks [] := by kernel_rfl
theorem hall10 : (Tryz.f10.params.toList.all fun u => !Tryz.prog.wantsStandIn u) = true := by kernel_rfl
theorem goes10 : false = Rows.channelTrueRow.goesBy Tryz.checked.prog := by kernel_rfl
theorem card10 : Rows.ChannelTrueCardSaid :=
  Claim7.holds_tied_plain_at .later [] [.data, .data, .data, .widerDeep, .widerDeep, .funcs, .funcs, .funcs] true (true, "60d6ab7a3705e4d389f432389cc0b257e1dd0c53e258f9a43d48679988e3a89d") false
    said10 (fun _ h => by cases h) wf10 (fun _ h => by cases h) channelTrue_row_tie rfl ⟨rfl, rfl⟩ main10 rfl
    (fun f fn hf hfn => by
      obtain rfl : f = 10 := (Option.some.inj (named10.symm.trans hf)).symm
      obtain rfl : fn = Tryz.f10 := (Option.some.inj (Tryz.func10.symm.trans hfn)).symm
      exact ⟨looks10, fun j t ht => by
        have hm : t ∈ Tryz.f10.params.toList := by simpa using Array.mem_of_getElem? ht
        exact (show Tryz.prog.wantsStandIn t = false by simpa using List.all_eq_true.1 hall10 t hm)⟩)
    goes10
end Go.Proofs.YtbaedpfgjpkabaaGreatDoor
