/- What a kernel encloses: the chapter's and the reference's. -/
import Derived.Test.YtbaedpfgjpkabaaGreatDoorChN2
set_option maxHeartbeats 16000000
namespace Fw
open Go
attribute [local irreducible] evCode evOps evOpsD evOper evOperD evOp evFn loopN T.All T.bind callPure callOp opsK opsDK restK seqK blockK loopS setK setQ giveK scalK gcK finish finS rfunK yldK yldB loopK

def lowF (l : List (Int × Int)) (A : List Int) (i : Nat) : Int := sumN (fun i => min (A.getD i 0 * (l.getD i (0, 0)).1) (A.getD i 0 * (l.getD i (0, 0)).2)) i
def highF (l : List (Int × Int)) (A : List Int) (i : Nat) : Int := sumN (fun i => max (A.getD i 0 * (l.getD i (0, 0)).1) (A.getD i 0 * (l.getD i (0, 0)).2)) i

section
variable {d : Nat}

end

def allB (o : List (Int × Int)) : Bool := o.any encB
end Fw
