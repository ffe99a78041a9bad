/- The law BarrierFarther of the program: its tied card holds: the function returns true at every input, and the input reads as it did. The condition: the package variables that the row lists are laid as it says. -/
import Derived.Test.YtfkacogfieiccaaGreatDoorBaCl11A
namespace Go.Proofs.YtfkacogfieiccaaGreatDoor
open Go Go.ChangeShapes Go.WideShapes Go.ChangeAt Go.RowKit Fw
set_option maxRecDepth 100000

theorem ip11 : (Rows.barrierFartherRow.inPlace == Tryz.prog.inPlace 11) = true := by kernel_rfl
theorem un11 : (Rows.barrierFartherRow.unfollowed == Tryz.prog.unfollowed 11) = true := by kernel_rfl
theorem rc11 : (Rows.barrierFartherRow.recurses == Tryz.prog.recurses 11) = true := by kernel_rfl
theorem nm11 : (Rows.barrierFartherRow.named == Tryz.prog.varsNamed 11) = true := by kernel_rfl
theorem closed11 : joinedFacts Tryz.prog 11 Tryz.f11 Rows.barrierFartherSpec Rows.barrierFartherRow = true := by
 unfold joinedFacts
 rw [ip11, un11, rc11, nm11, laidOut11]
 kernel_rfl
theorem named11 : Tryz.prog.funcNamed Rows.barrierFartherRow.func = some 11 := by kernel_rfl

theorem said11 : Rows.BarrierFartherSaid :=
 OpenClaim.holds_of_wide 11 Tryz.f11 rfl rfl rfl rfl rfl rfl rfl ⟨rfl, rfl, rfl, rfl, rfl⟩ rfl rfl rfl rfl rfl named11 Tryz.func11 closed11
  (of_decide_eq_true (by kernel_rfl)) (by unfold Func.isWrapper; first | (rw [if_pos (by decide +kernel)]; kernel_rfl) | (rw [if_neg (by decide +kernel)]; exact ⟨rfl, rfl⟩))
  (fun os started H enc _ => lifted11 os started H enc)

theorem wf11 : Rows.barrierFartherRow.wfByText (OpenSpec.ofChange Rows.barrierFartherSpec) = true := by kernel_rfl
theorem main11 : Tryz.checked.prog.mainIs = some (true, "6709bfe0bbc5d6b21f1f675d2b4f8666b56791778b1339ce46b3314c7da4bb30".toList) := by kernel_rfl
theorem looks11 : false = Tryz.prog.looks [] := by kernel_rfl
theorem hall11 : (Tryz.f11.params.toList.all fun u => !Tryz.prog.wantsStandIn u) = true := by kernel_rfl
theorem goes11 : false = Rows.barrierFartherRow.goesBy Tryz.checked.prog := by kernel_rfl
theorem card11 : Rows.BarrierFartherCardSaid :=
 Claim7.holds_tied_plain_at .later [] [.data, .data, .data, .data, .funcs, .wider, .pinned] true (true, "6709bfe0bbc5d6b21f1f675d2b4f8666b56791778b1339ce46b3314c7da4bb30") false
  said11 (fun _ h => by cases h) wf11 (fun _ h => by cases h) barrierFarther_row_tie rfl ⟨rfl, rfl⟩ main11 rfl
  (fun f fn hf hfn => by
   obtain rfl : f = 11 := (Option.some.inj (named11.symm.trans hf)).symm
   obtain rfl : fn = Tryz.f11 := (Option.some.inj (Tryz.func11.symm.trans hfn)).symm
   exact ⟨looks11, fun j t ht => by
    have hm : t ∈ Tryz.f11.params.toList := by simpa using Array.mem_of_getElem? ht
    exact (show Tryz.prog.wantsStandIn t = false by simpa using List.all_eq_true.1 hall11 t hm)⟩)
  goes11
end Go.Proofs.YtfkacogfieiccaaGreatDoor
