/- The kinds of acts: words, lists of words. -/
import Derived.Test.YtdjkleaojdeepaaGreatDoorGaH6
import Derived.KernelRfl
set_option maxHeartbeats 16000000
namespace Fw
open Go
attribute [local irreducible] evCode evOps evOpsD evOper evOperD evOp evFn loopN T.All T.bind callPure callOp opsK opsDK restK seqK blockK loopS setK setQ giveK scalK gcK finish finS rfunK yldK yldB loopK
abbrev kOpen : List UInt8 := [111, 112, 101, 110]
abbrev kClose : List UInt8 := [99, 108, 111, 115, 101]
abbrev kInsert : List UInt8 := [105, 110, 115, 101, 114, 116]
abbrev kRemove : List UInt8 := [114, 101, 109, 111, 118, 101]
abbrev kEnter : List UInt8 := [101, 110, 116, 101, 114]
abbrev kLeave : List UInt8 := [108, 101, 97, 118, 101]
abbrev kArm : List UInt8 := [97, 114, 109]
abbrev kDisarm : List UInt8 := [100, 105, 115, 97, 114, 109]
abbrev kShoot : List UInt8 := [115, 104, 111, 111, 116]
abbrev kMeasure : List UInt8 := [109, 101, 97, 115, 117, 114, 101]
def kindL : List (List UInt8) := [kOpen, kClose, kInsert, kRemove, kEnter, kLeave, kArm, kDisarm, kShoot, kMeasure]
abbrev strL (l : List (List UInt8)) : AVal := .p (.sl (pStr l) l.length)

/-- an act -/
structure ActI where
  tick : Int
  kind : List UInt8
  num : Int
  a : Int
  b : Int
  c : Int
abbrev aa (x : ActI) : AVal := .agg [iv x.tick, sv x.kind, iv x.num, iv x.a, iv x.b, iv x.c]
def doorB (k : List UInt8) : Bool := k == kOpen || k == kClose || k == kEnter || k == kLeave
def keyB (k : List UInt8) : Bool := k == kInsert || k == kRemove
end Fw
