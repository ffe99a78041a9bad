/- Schedules: whether jobs are apart, by the reference (printed by genJ8.py). -/
import Derived.Test.YtdjkleaojdeepaaGreatDoorGaJ7
set_option maxHeartbeats 16000000
set_option maxRecDepth 8000
namespace Fw
open Go
attribute [local irreducible] evCode evOps evOpsD evOper evOperD evOp evFn loopN T.All T.bind callPure callOp opsK opsDK restK seqK blockK loopS setK setQ giveK scalK gcK finish finS rfunK yldK yldB loopK

def P56 (l : List JobI) (st : List Int) (i k : Nat) : St := ⟨[(0, jsl l), (1, isl st), (5, iv i), (6, iv k)], []⟩
end Fw
