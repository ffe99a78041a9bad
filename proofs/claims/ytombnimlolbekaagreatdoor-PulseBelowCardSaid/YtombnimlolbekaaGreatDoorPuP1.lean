/- Lists of runs: the pulse chapter and its reference. -/
import Derived.Test.YtombnimlolbekaaGreatDoorPuS5
set_option maxHeartbeats 8000000
namespace Fw
open Go
attribute [local irreducible] evCode evOps evOpsD evOper evOperD evOp evFn loopN T.All T.bind callPure callOp opsK opsDK restK seqK blockK loopS setK setQ giveK scalK gcK finish finS rfunK yldK yldB loopK

def lsl (l : List Int) : PVal := .sl (pI l) l.length
def pL (ls : List (List Int)) : List PVal := ls.map lsl
abbrev llsl (ls : List (List Int)) : AVal := .p (.sl (pL ls) ls.length)
@[simp] theorem pL_length (ls : List (List Int)) : (pL ls).length = ls.length := by simp [pL]
@[simp] theorem pL_get (ls : List (List Int)) (i : Nat) : (pL ls)[i]? = (ls[i]?).map lsl := by simp [pL]
@[simp] theorem pL_getElem (ls : List (List Int)) (i : Nat) (h : i < (pL ls).length) : (pL ls)[i] = lsl (ls[i]'(by simpa using h)) := by simp [pL]
@[simp] theorem nrm_lsl (l : List Int) : nrm (lsl l) = lsl l := rfl
@[simp] theorem scalarP_lsl (l : List Int) : scalarP (lsl l) = false := rfl

end Fw
