/- The law BarrierStops of the program: its tied card holds: the function returns true at every input, and the input reads as it did. The condition: the package variables that the row lists are laid as it says. -/
import Derived.Test.YtfkacogfieiccaaGreatDoorBaCl10A
namespace Go.Proofs.YtfkacogfieiccaaGreatDoor
open Go Go.ChangeShapes Go.WideShapes Go.ChangeAt Go.RowKit Fw
set_option maxRecDepth 100000

theorem ip10 : (Rows.barrierStopsRow.inPlace == Tryz.prog.inPlace 10) = true := by kernel_rfl
theorem un10 : (Rows.barrierStopsRow.unfollowed == Tryz.prog.unfollowed 10) = true := by kernel_rfl
theorem rc10 : (Rows.barrierStopsRow.recurses == Tryz.prog.recurses 10) = true := by kernel_rfl
theorem nm10 : (Rows.barrierStopsRow.named == Tryz.prog.varsNamed 10) = true := by kernel_rfl
theorem closed10 : joinedFacts Tryz.prog 10 Tryz.f10 Rows.barrierStopsSpec Rows.barrierStopsRow = true := by
  unfold joinedFacts
  rw [ip10, un10, rc10, nm10, laidOut10]
  kernel_rfl
theorem named10 : Tryz.prog.funcNamed Rows.barrierStopsRow.func = some 10 := by kernel_rfl

theorem said10 : Rows.BarrierStopsSaid :=
  OpenClaim.holds_of_wide 10 Tryz.f10 rfl rfl rfl rfl rfl rfl rfl ⟨rfl, rfl, rfl, rfl, rfl⟩ rfl rfl rfl rfl rfl named10 Tryz.func10 closed10
    (of_decide_eq_true (by kernel_rfl)) (by unfold Func.isWrapper; first | (rw [if_pos (by decide +kernel)]; kernel_rfl) | (rw [if_neg (by decide +kernel)]; exact ⟨rfl, rfl⟩))
    (fun os started H enc _ => lifted10 os started H enc)

theorem card10 : Rows.BarrierStopsCardSaid :=
  Claim7.holds_tied_plain_at .later [] [.data, .data, .data, .data, .funcs, .wider, .pinned] true (true, "6709bfe0bbc5d6b21f1f675d2b4f8666b56791778b1339ce46b3314c7da4bb30") false
    said10 (fun _ h => by cases h) (by kernel_rfl) (fun _ h => by cases h) barrierStops_row_tie rfl ⟨rfl, rfl⟩ (by kernel_rfl) rfl
    (fun f fn hf hfn => by
      obtain rfl : f = 10 := Option.some.inj ((show Tryz.prog.funcNamed Rows.barrierStopsRow.func = some 10 by kernel_rfl).symm.trans hf) |>.symm
      obtain rfl : fn = Tryz.f10 := (Option.some.inj (Tryz.func10.symm.trans hfn)).symm
      exact ⟨by kernel_rfl, fun j t ht => by
        have hm : t ∈ Tryz.f10.params.toList := by simpa using Array.mem_of_getElem? ht
        have hall : (Tryz.f10.params.toList.all fun u => !Tryz.prog.wantsStandIn u) = true := by kernel_rfl
        exact (show Tryz.prog.wantsStandIn t = false by simpa using List.all_eq_true.1 hall t hm)⟩)
    (by kernel_rfl)
end Go.Proofs.YtfkacogfieiccaaGreatDoor
