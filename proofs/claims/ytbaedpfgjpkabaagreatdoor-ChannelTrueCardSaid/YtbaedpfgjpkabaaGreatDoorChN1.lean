/- Kernels and intervals: their errors, the chapter's and the reference's. -/
import Derived.Test.YtbaedpfgjpkabaaGreatDoorChK
set_option maxHeartbeats 8000000
namespace Fw
open Go
attribute [local irreducible] evCode evOps evOpsD evOper evOperD evOp evFn loopN T.All T.bind callPure callOp opsK opsDK restK seqK blockK loopS setK setQ giveK scalK gcK finish finS rfunK yldK yldB loopK

def sumW (k : List Int) : Nat → Int
  | 0 => 0
  | i + 1 => IntKind.i64.wrap (sumW k i + k.getD i 0)

/-! the error of a kernel -/
def kerE1 (k : List Int) : Int := firstE [whenE ((k.length : Int) == 0) 12, whenE (decide ((7 : Int) < k.length)) 5]
def kerE2 (k : List Int) : Int := firstE [firstE (k.map (rangeE (-100) 100)), whenE (decide (sumW k k.length ≤ 0)) 6]
def kerE (k : List Int) : Int := if kerE1 k = 0 then kerE2 k else kerE1 k

/-! the error of intervals -/
def manyE (m : Int) : Int := firstE [whenE (m == 0) 12, whenE (decide (4096 < m)) 5]
abbrev ivX : Int × Int → Int := ivE (-200000) 200000
def ivsE (l : List (Int × Int)) : Int := firstE [manyE l.length, firstE (l.map ivX)]

end Fw
