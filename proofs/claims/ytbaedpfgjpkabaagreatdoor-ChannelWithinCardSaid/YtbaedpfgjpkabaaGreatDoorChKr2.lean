/- Records with weights: the reference's. -/
import Derived.Test.YtbaedpfgjpkabaaGreatDoorChKr1
set_option maxHeartbeats 8000000
namespace Fw
open Go
attribute [local irreducible] evCode evOps evOpsD evOper evOperD evOp evFn loopN T.All T.bind callPure callOp opsK opsDK restK seqK blockK loopS setK setQ giveK scalK gcK finish finS rfunK yldK yldB loopK

/-- the sum at an index -/
def refP (xs k : List Int) (a : Nat) (i : Nat) : Int := sumN (fun i => k.getD i 0 * xs.getD (atI ((a : Int) - i) xs.length).toNat 0) i
/-- there and back -/
def refJ (xs k : List Int) (a i : Nat) (j : Nat) : Int := sumN (fun j => k.getD i 0 * k.getD j 0 * xs.getD (atI ((a : Int) + i - j) xs.length).toNat 0) j
def refF (xs k : List Int) (a : Nat) (i : Nat) : Int := sumN (fun i => refJ xs k a i k.length) i
end Fw
