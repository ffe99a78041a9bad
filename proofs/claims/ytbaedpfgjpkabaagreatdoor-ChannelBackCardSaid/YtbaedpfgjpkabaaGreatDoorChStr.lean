/- The law on strings of sensors: what it returns at any input. -/
import Derived.Test.YtbaedpfgjpkabaaGreatDoorChSt14
import Derived.Test.YtbaedpfgjpkabaaGreatDoorChSt6
import Derived.Test.YtbaedpfgjpkabaaGreatDoorChSt7
set_option maxHeartbeats 16000000
namespace Fw
open Go
attribute [local irreducible] evCode evOps evOpsD evOper evOperD evOp evFn loopN T.All T.bind callPure callOp opsK opsDK restK seqK blockK loopS setK setQ giveK scalK gcK finish finS rfunK yldK yldB loopK

def hdS : ACode → ACode
  | .seq a _ => a
  | c => c
def tlS : ACode → ACode
  | .seq _ b => b
  | c => c
@[irreducible] def c13r : ACode := tlS (tlS c13.body)
end Fw
