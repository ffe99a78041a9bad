/- The law BarrierWalls of the program: its tied card holds: the function returns true at every input, and the input reads as it did. The condition: the package variables that the row lists are laid as it says. -/
import Derived.Test.YtfkacogfieiccaaGreatDoorBaCl8A
namespace Go.Proofs.YtfkacogfieiccaaGreatDoor
open Go Go.ChangeShapes Go.WideShapes Go.ChangeAt Go.RowKit Fw
set_option maxRecDepth 100000

theorem ip8 : (Rows.barrierWallsRow.inPlace == Tryz.prog.inPlace 8) = true := by kernel_rfl
theorem un8 : (Rows.barrierWallsRow.unfollowed == Tryz.prog.unfollowed 8) = true := by kernel_rfl
theorem rc8 : (Rows.barrierWallsRow.recurses == Tryz.prog.recurses 8) = true := by kernel_rfl
theorem nm8 : (Rows.barrierWallsRow.named == Tryz.prog.varsNamed 8) = true := by kernel_rfl
theorem closed8 : joinedFacts Tryz.prog 8 Tryz.f8 Rows.barrierWallsSpec Rows.barrierWallsRow = true := by
  unfold joinedFacts
  rw [ip8, un8, rc8, nm8, laidOut8]
  kernel_rfl
theorem named8 : Tryz.prog.funcNamed Rows.barrierWallsRow.func = some 8 := by kernel_rfl

theorem said8 : Rows.BarrierWallsSaid :=
  OpenClaim.holds_of_wide 8 Tryz.f8 rfl rfl rfl rfl rfl rfl rfl ⟨rfl, rfl, rfl, rfl, rfl⟩ rfl rfl rfl rfl rfl named8 Tryz.func8 closed8
    (of_decide_eq_true (by kernel_rfl)) (by unfold Func.isWrapper; first | (rw [if_pos (by decide +kernel)]; kernel_rfl) | (rw [if_neg (by decide +kernel)]; exact ⟨rfl, rfl⟩))
    (fun os started H enc _ => lifted8 os started H enc)

theorem card8 : Rows.BarrierWallsCardSaid :=
  Claim7.holds_tied_plain_at .later [] [.data, .data, .data, .data, .funcs, .wider, .pinned] true (true, "6709bfe0bbc5d6b21f1f675d2b4f8666b56791778b1339ce46b3314c7da4bb30") false
    said8 (fun _ h => by cases h) (by kernel_rfl) (fun _ h => by cases h) barrierWalls_row_tie rfl ⟨rfl, rfl⟩ (by kernel_rfl) rfl
    (fun f fn hf hfn => by
      obtain rfl : f = 8 := Option.some.inj ((show Tryz.prog.funcNamed Rows.barrierWallsRow.func = some 8 by kernel_rfl).symm.trans hf) |>.symm
      obtain rfl : fn = Tryz.f8 := (Option.some.inj (Tryz.func8.symm.trans hfn)).symm
      exact ⟨by kernel_rfl, fun j t ht => by
        have hm : t ∈ Tryz.f8.params.toList := by simpa using Array.mem_of_getElem? ht
        have hall : (Tryz.f8.params.toList.all fun u => !Tryz.prog.wantsStandIn u) = true := by kernel_rfl
        exact (show Tryz.prog.wantsStandIn t = false by simpa using List.all_eq_true.1 hall t hm)⟩)
    (by kernel_rfl)
end Go.Proofs.YtfkacogfieiccaaGreatDoor
