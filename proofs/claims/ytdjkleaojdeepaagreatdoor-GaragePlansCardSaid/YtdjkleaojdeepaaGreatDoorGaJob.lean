/- The law on jobs: what it returns at any input. -/
import Derived.Test.YtdjkleaojdeepaaGreatDoorGaJ8
set_option maxHeartbeats 16000000
set_option maxRecDepth 8000
namespace Fw
open Go
attribute [local irreducible] evCode evOps evOpsD evOper evOperD evOp evFn loopN T.All T.bind callPure callOp opsK opsDK restK seqK blockK loopS setK setQ giveK scalK gcK finish finS rfunK yldK yldB loopK

def plcO (l : List JobI) (o : List Int) : List Int := if firstE [jobE l, ordE l.length o] = 0 then plF l o l.length else []
def schE (l : List JobI) (st : List Int) : Int := if firstE [jobE l, staE l.length st] = 0 then conE l st else firstE [jobE l, staE l.length st]
end Fw
