/- Sensors: their errors, offsets, the interval of the products. -/
import Derived.Test.YtbaedpfgjpkabaaGreatDoorChS1
import Derived.Test.YtbaedpfgjpkabaaGreatDoorChN2
import Derived.Test.YtbaedpfgjpkabaaGreatDoorChR
set_option maxHeartbeats 8000000
namespace Fw
open Go
attribute [local irreducible] evCode evOps evOpsD evOper evOperD evOp evFn loopN T.All T.bind callPure callOp opsK opsDK restK seqK blockK loopS setK setQ giveK scalK gcK finish finS rfunK yldK yldB loopK

structure SenI where
  name : List UInt8
  scale : Int
  lo : Int
  hi : Int
abbrev sea (s : SenI) : AVal := .agg [sv s.name, iv s.scale, iv s.lo, iv s.hi]
def senE (s : SenI) : Int := firstE [whenE (!nameB s.name) 8, rangeE 1 16384 s.scale, ivE 1 4000 (s.lo, s.hi)]
structure SenOk (s : SenI) : Prop where
  name : nameB s.name = true
  s0 : 1 ≤ s.scale
  s1 : s.scale ≤ 16384
  l0 : 1 ≤ s.lo
  l1 : s.lo ≤ s.hi
  l2 : s.hi ≤ 4000
/-! samples before zero -/
def zeE (l : List Nat) (z : Int) : Int := firstE [smpsE l, rangeE 1 64 z, whenE (decide ((l.length : Int) < z)) 16]
/-- the least and the greatest integer of the first samples -/
def offX (l : List Nat) (z : Int) : List Int := (l.take z.toNat).map smpN
def offL (l : List Nat) (z : Int) : Int := loF (offX l z) ((offX l z).length - 1)
def offH (l : List Nat) (z : Int) : Int := hiF (offX l z) ((offX l z).length - 1)

/-- the same as the reference finds it, with the places -/
def laF (x : List Int) : Nat → Int
  | 0 => 0
  | k + 1 => if x.getD (k + 1) 0 < loF x k then (k : Int) + 1 else laF x k
def haF (x : List Int) : Nat → Int
  | 0 => 0
  | k + 1 => if hiF x k < x.getD (k + 1) 0 then (k : Int) + 1 else haF x k

/-! products of two intervals -/
def min4 (p q a b : Int) : Int := min (min (min (p * a) (p * b)) (q * a)) (q * b)
def max4 (p q a b : Int) : Int := max (max (max (p * a) (p * b)) (q * a)) (q * b)
end Fw
