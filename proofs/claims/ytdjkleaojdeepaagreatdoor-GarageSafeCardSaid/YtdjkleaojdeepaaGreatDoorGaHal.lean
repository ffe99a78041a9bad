/- The law on halls: what it returns at any input. -/
import Derived.Test.YtdjkleaojdeepaaGreatDoorGaH9
set_option maxHeartbeats 16000000
namespace Fw
open Go
attribute [local irreducible] evCode evOps evOpsD evOper evOperD evOp evFn loopN T.All T.bind callPure callOp opsK opsDK restK seqK blockK loopS setK setQ giveK scalK gcK finish finS rfunK yldK yldB loopK

theorem short15 {n : Nat} (hn : 1 ≤ n) (h : HallI) : RUN n 15 [ha h] = .ret (.p (.bool (decide (h.t0.length ≤ 9) && (decide (h.t1.length ≤ 9) && decide (h.t2.length ≤ 9))))) := by
 obtain ⟨d, rfl⟩ : ∃ d, n = d + 1 := ⟨n - 1, by omega⟩
 rw [RUN, call_eq fe15 _ rfl]
 by_cases h0 : h.t0.length ≤ 9
 ·have h0' : (h.t0.length : Int) ≤ 9 := by omega
  by_cases h1 : h.t1.length ≤ 9
  ·have h1' : (h.t1.length : Int) ≤ 9 := by omega
   by_cases h2 : h.t2.length ≤ 9
   ·have h2' : (h.t2.length : Int) ≤ 9 := by omega
    simp -implicitDefEqProofs [c15, h0, h1, h2, h0', h1', h2']
   ·have h2' : ¬ (h.t2.length : Int) ≤ 9 := by omega
    simp -implicitDefEqProofs [c15, h0, h1, h2, h0', h1', h2']
  ·have h1' : ¬ (h.t1.length : Int) ≤ 9 := by omega
   simp -implicitDefEqProofs [c15, h0, h1, h0', h1']
 ·have h0' : ¬ (h.t0.length : Int) ≤ 9 := by omega
  simp -implicitDefEqProofs [c15, h0, h0']

end Fw
