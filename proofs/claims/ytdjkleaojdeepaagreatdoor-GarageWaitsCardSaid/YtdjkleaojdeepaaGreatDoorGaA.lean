/- The examples of awake are true. -/
import Derived.Test.YtdjkleaojdeepaaGreatDoorGaAw1
import Derived.Test.YtdjkleaojdeepaaGreatDoorGaAw2
import Derived.Test.YtdjkleaojdeepaaGreatDoorGaAw3
import Derived.Test.YtdjkleaojdeepaaGreatDoorGaAw4
import Derived.Test.YtdjkleaojdeepaaGreatDoorGaAw5
set_option maxHeartbeats 16000000
set_option maxRecDepth 10000
namespace Fw
open Go
attribute [local irreducible] evCode evOps evOpsD evOper evOperD evOp evFn loopN T.All T.bind callPure callOp opsK opsDK restK seqK blockK loopS setK setQ giveK scalK gcK finish finS rfunK yldK yldB loopK
theorem awake : RUN 60 17 [] = .ret (.p (.bool true)) := by
 have w0 : IntKind.i64.wrap 0 = 0 := by decide
 rw [RUN, call_eq fe17 _ rfl]
 simp -implicitDefEqProofs [c17, w0, aw0, aw1, aw2, aw3, aw4, aw5, aw6, aw7, aw8, aw9, aw10, aw11, aw12, aw13, aw14, aw15, aw16, aw17, aw18, aw19, aw20, aw21, aw22, aw23, aw24, aw25, aw26, aw27, aw28, aw29, aw30, aw31, aw32, aw33, aw34, aw35, aw36, aw37, aw38, aw39, aw40, lim, strBin]
end Fw
