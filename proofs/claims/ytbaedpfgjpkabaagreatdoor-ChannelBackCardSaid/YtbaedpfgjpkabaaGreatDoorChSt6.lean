/- Lists of sensors: printed by the reference. -/
import Derived.Test.YtbaedpfgjpkabaaGreatDoorChSt5
set_option maxHeartbeats 8000000
namespace Fw
open Go
attribute [local irreducible] evCode evOps evOpsD evOper evOperD evOp evFn loopN T.All T.bind callPure callOp opsK opsDK restK seqK blockK loopS setK setQ giveK scalK gcK finish finS rfunK yldK yldB loopK

end Fw
