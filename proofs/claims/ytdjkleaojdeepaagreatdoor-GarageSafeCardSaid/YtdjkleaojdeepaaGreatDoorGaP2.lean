/- The kinds that are permitted, the reference's, kind by kind (printed by genP1.py). -/
import Derived.Test.YtdjkleaojdeepaaGreatDoorGaP1
set_option maxHeartbeats 16000000
namespace Fw
open Go
attribute [local irreducible] evCode evOps evOpsD evOper evOperD evOp evFn loopN T.All T.bind callPure callOp opsK opsDK restK seqK blockK loopS setK setQ giveK scalK gcK finish finS rfunK yldK yldB loopK

end Fw
