/- Several texts in one: each is told at its head. -/
import Derived.Test.YtdjkleaojdeepaaGreatDoorGaK
section
/- Halls: the checks of a table, the program's and the reference's. -/
set_option maxHeartbeats 16000000
namespace Fw
open Go
attribute [local irreducible] evCode evOps evOpsD evOper evOperD evOp evFn loopN T.All T.bind callPure callOp opsK opsDK restK seqK blockK loopS setK setQ giveK scalK gcK finish finS rfunK yldK yldB loopK

/-- what stands before a step -/
def prvL (l : List (Int × Int)) : Nat → Int × Int
  | 0 => (-1, 0)
  | i + 1 => l.getD i (0, 0)
/-- a step that is out of order -/
def ordB (p s : Int × Int) (z : Bool) : Bool := (z && decide (s.1 ≠ 0)) || decide (s.1 ≤ p.1) || decide (s.2 < p.2)
def stE (p s : Int × Int) (z : Bool) : Int := firstE [rangeE 0 100000 s.1, rangeE 0 1000000 s.2, whenE (ordB p s z) 11]
def stL (l : List (Int × Int)) : List Int := (List.range l.length).map fun i => stE (prvL l i) (l.getD i (0, 0)) (decide (i = 0))
def tabE (l : List (Int × Int)) : Int := if l.length = 0 then 12 else if 8 < l.length then 5 else firstE (stL l)
end Fw
end

section
/- Halls: the check of a table, the reference's. -/
set_option maxHeartbeats 16000000
namespace Fw
open Go
attribute [local irreducible] evCode evOps evOpsD evOper evOperD evOp evFn loopN T.All T.bind callPure callOp opsK opsDK restK seqK blockK loopS setK setQ giveK scalK gcK finish finS rfunK yldK yldB loopK

end Fw
end

section
/- Halls: the check of a hall, of three values; both sides. -/
set_option maxHeartbeats 16000000
namespace Fw
open Go
attribute [local irreducible] evCode evOps evOpsD evOper evOperD evOp evFn loopN T.All T.bind callPure callOp opsK opsDK restK seqK blockK loopS setK setQ giveK scalK gcK finish finS rfunK yldK yldB loopK

structure HallI where
  doors : Int
  base : Int
  t0 : List (Int × Int)
  t1 : List (Int × Int)
  t2 : List (Int × Int)
abbrev ha (h : HallI) : AVal := .agg [iv h.doors, iv h.base, csl h.t0, csl h.t1, csl h.t2]
def hallE (h : HallI) : Int := firstE [rangeE 1 8 h.doors, rangeE 0 1000000 h.base, tabE h.t0, tabE h.t1, tabE h.t2]
def dcI : List PVal → List (Int × Int)
  | .int _ a :: .int _ b :: r => (a, b) :: dcI r
  | _ => []
def tabG : PVal → PVal
  | .sl cs _ => .int .i64 (tabE (dcI cs))
  | c => c
/-- three values -/
abbrev v3 (a b c : Int) : AVal := .agg [iv a, iv b, iv c]
def valE (a b c : Int) : Int := firstE [rangeE 0 100000 a, rangeE 0 100000 b, rangeE 0 100000 c]
def ranG : PVal → PVal
  | .int _ n => .int .i64 (rangeE 0 100000 n)
  | c => c
end Fw
end

section
/- Halls: the wait after three values; both sides. -/
set_option maxHeartbeats 16000000
namespace Fw
open Go
attribute [local irreducible] evCode evOps evOpsD evOper evOperD evOp evFn loopN T.All T.bind callPure callOp opsK opsDK restK seqK blockK loopS setK setQ giveK scalK gcK finish finS rfunK yldK yldB loopK

/-- the greatest wait of a table's steps up to a value -/
def wtP (l : List (Int × Int)) (v acc : Int) : Nat → Int
  | 0 => acc
  | i + 1 => if (l.getD i (0, 0)).1 ≤ v then max (wtP l v acc i) (l.getD i (0, 0)).2 else wtP l v acc i
/-- the last one -/
def wtR (l : List (Int × Int)) (v : Int) : Nat → Int
  | 0 => 0
  | i + 1 => if (l.getD i (0, 0)).1 ≤ v then (l.getD i (0, 0)).2 else wtR l v i
def waitP (h : HallI) (a b c : Int) : Int := wtP h.t2 c (wtP h.t1 b (wtP h.t0 a 0 h.t0.length) h.t1.length) h.t2.length
def waitR (h : HallI) (a b c : Int) : Int := max (max (max 0 (wtR h.t0 a h.t0.length)) (wtR h.t1 b h.t1.length)) (wtR h.t2 c h.t2.length)

end Fw
end

