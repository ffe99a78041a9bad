/- The law BarrierStrings of the program: its tied card holds: the function returns true at every input, and the input reads as it did. The condition: the package variables that the row lists are laid as it says. -/
import Derived.Test.YtfkacogfieiccaaGreatDoorBaCl9A
namespace Go.Proofs.YtfkacogfieiccaaGreatDoor
open Go Go.ChangeShapes Go.WideShapes Go.ChangeAt Go.RowKit Fw
set_option maxRecDepth 100000

theorem ip9 : (Rows.barrierStringsRow.inPlace == Tryz.prog.inPlace 9) = true := by kernel_rfl
theorem un9 : (Rows.barrierStringsRow.unfollowed == Tryz.prog.unfollowed 9) = true := by kernel_rfl
theorem rc9 : (Rows.barrierStringsRow.recurses == Tryz.prog.recurses 9) = true := by kernel_rfl
theorem nm9 : (Rows.barrierStringsRow.named == Tryz.prog.varsNamed 9) = true := by kernel_rfl
theorem closed9 : joinedFacts Tryz.prog 9 Tryz.f9 Rows.barrierStringsSpec Rows.barrierStringsRow = true := by
  unfold joinedFacts
  rw [ip9, un9, rc9, nm9, laidOut9]
  kernel_rfl
theorem named9 : Tryz.prog.funcNamed Rows.barrierStringsRow.func = some 9 := by kernel_rfl

theorem said9 : Rows.BarrierStringsSaid :=
  OpenClaim.holds_of_wide 9 Tryz.f9 rfl rfl rfl rfl rfl rfl rfl ⟨rfl, rfl, rfl, rfl, rfl⟩ rfl rfl rfl rfl rfl named9 Tryz.func9 closed9
    (of_decide_eq_true (by kernel_rfl)) (by unfold Func.isWrapper; first | (rw [if_pos (by decide +kernel)]; kernel_rfl) | (rw [if_neg (by decide +kernel)]; exact ⟨rfl, rfl⟩))
    (fun os started H enc _ => lifted9 os started H enc)

theorem card9 : Rows.BarrierStringsCardSaid :=
  Claim7.holds_tied_plain_at .later [] [.data, .data, .data, .data, .funcs, .wider, .pinned] true (true, "6709bfe0bbc5d6b21f1f675d2b4f8666b56791778b1339ce46b3314c7da4bb30") false
    said9 (fun _ h => by cases h) (by kernel_rfl) (fun _ h => by cases h) barrierStrings_row_tie rfl ⟨rfl, rfl⟩ (by kernel_rfl) rfl
    (fun f fn hf hfn => by
      obtain rfl : f = 9 := Option.some.inj ((show Tryz.prog.funcNamed Rows.barrierStringsRow.func = some 9 by kernel_rfl).symm.trans hf) |>.symm
      obtain rfl : fn = Tryz.f9 := (Option.some.inj (Tryz.func9.symm.trans hfn)).symm
      exact ⟨by kernel_rfl, fun j t ht => by
        have hm : t ∈ Tryz.f9.params.toList := by simpa using Array.mem_of_getElem? ht
        have hall : (Tryz.f9.params.toList.all fun u => !Tryz.prog.wantsStandIn u) = true := by kernel_rfl
        exact (show Tryz.prog.wantsStandIn t = false by simpa using List.all_eq_true.1 hall t hm)⟩)
    (by kernel_rfl)
end Go.Proofs.YtfkacogfieiccaaGreatDoor
