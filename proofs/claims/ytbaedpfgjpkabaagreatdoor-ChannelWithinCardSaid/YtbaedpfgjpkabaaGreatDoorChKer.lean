/- The law of kernels, at any input. -/
import Derived.Test.YtbaedpfgjpkabaaGreatDoorChKr2
set_option maxHeartbeats 16000000
namespace Fw
open Go
attribute [local irreducible] evCode evOps evOpsD evOper evOperD evOp evFn loopN T.All T.bind callPure callOp opsK opsDK restK seqK blockK loopS setK setQ giveK scalK gcK finish finS rfunK yldK yldB loopK

/-! what is looked up among the weights -/
end Fw
