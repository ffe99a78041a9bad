/- The law ChannelBack of the program: its tied card holds: the function returns true at every input, and the input reads as it did. The condition: the package variables that the row lists are laid as it says. -/
import Derived.Test.YtbaedpfgjpkabaaGreatDoorChCl14A
namespace Go.Proofs.YtbaedpfgjpkabaaGreatDoor
open Go Go.ChangeShapes Go.WideShapes Go.ChangeAt Go.RowKit Fw
set_option maxRecDepth 100000

theorem ip14 : (Rows.channelBackRow.inPlace == Tryz.prog.inPlace 14) = true := by kernel_rfl
theorem un14 : (Rows.channelBackRow.unfollowed == Tryz.prog.unfollowed 14) = true := by kernel_rfl
theorem rc14 : (Rows.channelBackRow.recurses == Tryz.prog.recurses 14) = true := by kernel_rfl
theorem nm14 : (Rows.channelBackRow.named == Tryz.prog.varsNamed 14) = true := by kernel_rfl
theorem closed14 : joinedFacts Tryz.prog 14 Tryz.f14 Rows.channelBackSpec Rows.channelBackRow = true := by
  unfold joinedFacts
  rw [ip14, un14, rc14, nm14, laidOut14]
  kernel_rfl
theorem named14 : Tryz.prog.funcNamed Rows.channelBackRow.func = some 14 := by kernel_rfl

theorem said14 : Rows.ChannelBackSaid :=
  OpenClaim.holds_of_wide 14 Tryz.f14 rfl rfl rfl rfl rfl rfl rfl ⟨rfl, rfl, rfl, rfl, rfl⟩ rfl rfl rfl rfl rfl named14 Tryz.func14 closed14
    (of_decide_eq_true (by kernel_rfl)) (by unfold Func.isWrapper; first | (rw [if_pos (by decide +kernel)]; kernel_rfl) | (rw [if_neg (by decide +kernel)]; exact ⟨rfl, rfl⟩))
    (fun os started H enc _ => lifted14 os started H enc)

theorem wf14 : Rows.channelBackRow.wfByText (OpenSpec.ofChange Rows.channelBackSpec) = true := by kernel_rfl
theorem main14 : Tryz.checked.prog.mainIs = some (true, "60d6ab7a3705e4d389f432389cc0b257e1dd0c53e258f9a43d48679988e3a89d".toList) := by kernel_rfl
theorem looks14 : false = Tryz.prog.looks [] := by kernel_rfl
theorem hall14 : (Tryz.f14.params.toList.all fun u => !Tryz.prog.wantsStandIn u) = true := by kernel_rfl
theorem goes14 : false = Rows.channelBackRow.goesBy Tryz.checked.prog := by kernel_rfl
theorem card14 : Rows.ChannelBackCardSaid :=
  Claim7.holds_tied_plain_at .later [] [.data, .data, .data, .data, .widerDeep, .widerDeep, .funcs, .funcs, .funcs, .pinned] true (true, "60d6ab7a3705e4d389f432389cc0b257e1dd0c53e258f9a43d48679988e3a89d") false
    said14 (fun _ h => by cases h) wf14 (fun _ h => by cases h) channelBack_row_tie rfl ⟨rfl, rfl⟩ main14 rfl
    (fun f fn hf hfn => by
      obtain rfl : f = 14 := (Option.some.inj (named14.symm.trans hf)).symm
      obtain rfl : fn = Tryz.f14 := (Option.some.inj (Tryz.func14.symm.trans hfn)).symm
      exact ⟨looks14, fun j t ht => by
        have hm : t ∈ Tryz.f14.params.toList := by simpa using Array.mem_of_getElem? ht
        exact (show Tryz.prog.wantsStandIn t = false by simpa using List.all_eq_true.1 hall14 t hm)⟩)
    goes14
end Go.Proofs.YtbaedpfgjpkabaaGreatDoor
