/- What a sensor measured: the program's and the reference's values. -/
import Derived.Test.YtbaedpfgjpkabaaGreatDoorChSe1
set_option maxHeartbeats 16000000
namespace Fw
open Go
attribute [local irreducible] evCode evOps evOpsD evOper evOperD evOp evFn loopN T.All T.bind callPure callOp opsK opsDK restK seqK blockK loopS setK setQ giveK scalK gcK finish finS rfunK yldK yldB loopK

structure ValI where
  low : Int
  high : Int
  under : Bool
  over : Bool
  deriving DecidableEq
def vc (v : ValI) : List PVal := [.int .i64 v.low, .int .i64 v.high, .bool v.under, .bool v.over]
abbrev va (v : ValI) : AVal := .agg [iv v.low, iv v.high, .p (.bool v.under), .p (.bool v.over)]
abbrev vsl (l : List ValI) : AVal := .p (.sl (rowC vc l) l.length)
theorem vc_len (v : ValI) : (vc v).length = 4 := rfl
theorem vR_len (l : List ValI) : (rowC vc l).length = l.length * 4 := rowC_len vc_len l

/-- the value of an integer -/
def valO (s : SenI) (oL oH x : Int) : ValI := ⟨min4 (x - oH) (x - oL) s.lo s.hi / 1000, upQ (max4 (x - oH) (x - oL) s.lo s.hi) 1000, decide (x ≤ -s.scale), decide (s.scale ≤ x)⟩

def cvE (s : SenI) (l : List Nat) (z : Int) : Int := firstE [senE s, zeE l z]
def valsO (s : SenI) (l : List Nat) (z : Int) : List ValI := (l.map smpN).map (valO s (offL l z) (offH l z))

end Fw
