/- Sums and comparisons: the pulse chapter and its reference. -/
import Derived.Test.YtombnimlolbekaaGreatDoorPuL4
set_option maxHeartbeats 8000000
namespace Fw
open Go
attribute [local irreducible] evCode evOps evOpsD evOper evOperD evOp evFn loopN T.All T.bind callPure callOp opsK opsDK restK seqK blockK loopS setK setQ giveK scalK gcK finish finS rfunK yldK yldB loopK

def sumF (l : List Int) : Nat → Int
 | 0 => 0
 | i + 1 => sumF l i + l.getD i 0
structure Small (l : List Int) : Prop where
 len : l.length < 1000000
 sum : ∀ i, i ≤ l.length → -9223372036854775808 ≤ sumF l i ∧ sumF l i ≤ 9223372036854775807

/-! the law's own helpers -/

theorem ints33 {n : Nat} (hn : 1 ≤ n) (l : List Int) (hl : l.length < 1000000) : ∃ v, RUN n 33 [isl l] = .ret (.own (pI l) l.length 1) ∧ v = l := by
 obtain ⟨d, rfl⟩ : ∃ d, n = d + 1 := ⟨n - 1, by omega⟩
 refine ⟨l, ?_, rfl⟩
 rw [RUN, call_eq fe33 _ rfl]
 have hlim : l.length ≤ lim := by simp only [lim]; omega
 by_cases h : l.length = 0
 ·have : l = [] := List.eq_nil_of_length_eq_zero h
  subst this
  simp -implicitDefEqProofs [c33, lim]
 ·simp -implicitDefEqProofs [c33, hlim, h]

end Fw
