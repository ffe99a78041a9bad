/- Schedules: conflicts of two jobs, both sides. -/
import Derived.Test.YtdjkleaojdeepaaGreatDoorGaJ6
set_option maxHeartbeats 16000000
set_option maxRecDepth 8000
namespace Fw
open Go
attribute [local irreducible] evCode evOps evOpsD evOper evOperD evOp evFn loopN T.All T.bind callPure callOp opsK opsDK restK seqK blockK loopS setK setQ giveK scalK gcK finish finS rfunK yldK yldB loopK

/-- do two jobs with their starts meet? -/
def conB (x y : JobI) (sx sy : Int) : Bool := decide (sx < freeJ x y sy) && decide (sy < freeJ y x sx)
def conI (l : List JobI) (st : List Int) (i k : Nat) : Bool := conB (l.getD i zJ) (l.getD k zJ) (st.getD i 0) (st.getD k 0)
/-- the first conflict of a job with those before it -/
def con1 (l : List JobI) (st : List Int) (i : Nat) : Int := firstE ((List.range i).map fun k => if conI l st i k = true then 24 else 0)
def conE (l : List JobI) (st : List Int) : Int := firstE ((List.range l.length).map (con1 l st))
def P58 (l : List JobI) (st : List Int) (i k : Nat) : St := ⟨[(0, jsl l), (1, isl st), (6, iv i), (7, .ptr 0 0 0), (16, jsl l), (17, iv l.length), (18, iv i), (25, .p (.sl (rowC jc (l.take i)) i)), (26, iv i), (27, iv k)], [(0, .arr (jc (l.getD i zJ)) 0 1)]⟩
end Fw
