/- The law ChannelCodes of the program: its tied card holds: the function returns true at every input, and the input reads as it did. The condition: the package variables that the row lists are laid as it says. -/
import Derived.Test.YtbaedpfgjpkabaaGreatDoorChCl3A
namespace Go.Proofs.YtbaedpfgjpkabaaGreatDoor
open Go Go.ChangeShapes Go.WideShapes Go.ChangeAt Go.RowKit Fw
set_option maxRecDepth 100000

theorem ip3 : (Rows.channelCodesRow.inPlace == Tryz.prog.inPlace 3) = true := by kernel_rfl
theorem un3 : (Rows.channelCodesRow.unfollowed == Tryz.prog.unfollowed 3) = true := by kernel_rfl
theorem rc3 : (Rows.channelCodesRow.recurses == Tryz.prog.recurses 3) = true := by kernel_rfl
theorem nm3 : (Rows.channelCodesRow.named == Tryz.prog.varsNamed 3) = true := by kernel_rfl
theorem closed3 : joinedFacts Tryz.prog 3 Tryz.f3 Rows.channelCodesSpec Rows.channelCodesRow = true := by
  unfold joinedFacts
  rw [ip3, un3, rc3, nm3, laidOut3]
  kernel_rfl
theorem named3 : Tryz.prog.funcNamed Rows.channelCodesRow.func = some 3 := by kernel_rfl

theorem said3 : Rows.ChannelCodesSaid :=
  OpenClaim.holds_of_wide 3 Tryz.f3 rfl rfl rfl rfl rfl rfl rfl ⟨rfl, rfl, rfl, rfl, rfl⟩ rfl rfl rfl rfl rfl named3 Tryz.func3 closed3
    (of_decide_eq_true (by kernel_rfl)) (by unfold Func.isWrapper; first | (rw [if_pos (by decide +kernel)]; kernel_rfl) | (rw [if_neg (by decide +kernel)]; exact ⟨rfl, rfl⟩))
    (fun os started H enc _ => lifted3 os started H enc)

theorem wf3 : Rows.channelCodesRow.wfByText (OpenSpec.ofChange Rows.channelCodesSpec) = true := by kernel_rfl
theorem main3 : Tryz.checked.prog.mainIs = some (true, "60d6ab7a3705e4d389f432389cc0b257e1dd0c53e258f9a43d48679988e3a89d".toList) := by kernel_rfl
theorem looks3 : false = Tryz.prog.looks [] := by kernel_rfl
theorem hall3 : (Tryz.f3.params.toList.all fun u => !Tryz.prog.wantsStandIn u) = true := by kernel_rfl
theorem goes3 : false = Rows.channelCodesRow.goesBy Tryz.checked.prog := by kernel_rfl
theorem card3 : Rows.ChannelCodesCardSaid :=
  Claim7.holds_tied_plain_at .later [] [.data, .data, .data, .widerDeep, .widerDeep, .funcs, .funcs, .funcs] true (true, "60d6ab7a3705e4d389f432389cc0b257e1dd0c53e258f9a43d48679988e3a89d") false
    said3 (fun _ h => by cases h) wf3 (fun _ h => by cases h) channelCodes_row_tie rfl ⟨rfl, rfl⟩ main3 rfl
    (fun f fn hf hfn => by
      obtain rfl : f = 3 := (Option.some.inj (named3.symm.trans hf)).symm
      obtain rfl : fn = Tryz.f3 := (Option.some.inj (Tryz.func3.symm.trans hfn)).symm
      exact ⟨looks3, fun j t ht => by
        have hm : t ∈ Tryz.f3.params.toList := by simpa using Array.mem_of_getElem? ht
        exact (show Tryz.prog.wantsStandIn t = false by simpa using List.all_eq_true.1 hall3 t hm)⟩)
    goes3
end Go.Proofs.YtbaedpfgjpkabaaGreatDoor
