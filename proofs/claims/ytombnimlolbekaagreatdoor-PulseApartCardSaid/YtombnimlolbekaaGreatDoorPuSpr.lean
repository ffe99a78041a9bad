/- The law on spreads: what it returns at any input. -/
import Derived.Test.YtombnimlolbekaaGreatDoorPuPh
import Derived.Test.YtombnimlolbekaaGreatDoorPuRuns
set_option maxHeartbeats 16000000
namespace Fw
open Go
attribute [local irreducible] evCode evOps evOpsD evOper evOperD evOp evFn loopN T.All T.bind callPure callOp opsK opsDK restK seqK blockK loopS setK setQ giveK scalK gcK finish finS rfunK yldK yldB loopK

theorem short_len {ls : List (List Int)} (h : shortB ls = true) : ls.length ≤ 9 ∧ ∀ l ∈ ls, l.length ≤ 65 := by
 simp only [shortB, Bool.and_eq_true, decide_eq_true_eq] at h
 refine ⟨h.2, fun l hl => ?_⟩
 have := firstE_zero.1 h.1 (longE l) (List.mem_map.2 ⟨l, hl, rfl⟩)
 unfold longE at this
 split at this <;> omega

end Fw
