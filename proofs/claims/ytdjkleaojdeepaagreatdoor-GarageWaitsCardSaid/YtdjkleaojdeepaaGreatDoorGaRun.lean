/- The law on runs: what it returns at any input. -/
import Derived.Test.YtdjkleaojdeepaaGreatDoorGaRB
import Derived.Test.YtdjkleaojdeepaaGreatDoorGaHal
set_option maxHeartbeats 16000000
namespace Fw
open Go
attribute [local irreducible] evCode evOps evOpsD evOper evOperD evOp evFn loopN T.All T.bind callPure callOp opsK opsDK restK seqK blockK loopS setK setQ giveK scalK gcK finish finS rfunK yldK yldB loopK

def shortH (h : HallI) : Bool := decide (h.t0.length ≤ 9) && (decide (h.t1.length ≤ 9) && decide (h.t2.length ≤ 9))
end Fw
