/- Lists of runs, checked: the pulse chapter and its reference. -/
import Derived.Test.YtombnimlolbekaaGreatDoorPuP1
set_option maxHeartbeats 8000000
namespace Fw
open Go
attribute [local irreducible] evCode evOps evOpsD evOper evOperD evOp evFn loopN T.All T.bind callPure callOp opsK opsDK restK seqK blockK loopS setK setQ giveK scalK gcK finish finS rfunK yldK yldB loopK

theorem m156 : c156 = mapC (.p (.int .i64 0)) 8 := rfl
end Fw
