/- The codes of channels: check letters, errors. -/
import Derived.Test.YtbaedpfgjpkabaaGreatDoorChK
set_option maxHeartbeats 8000000
namespace Fw
open Go
attribute [local irreducible] evCode evOps evOpsD evOper evOperD evOp evFn loopN T.All T.bind callPure callOp opsK opsDK restK seqK blockK loopS setK setQ giveK scalK gcK finish finS rfunK yldK yldB loopK

def sumF (l : List UInt8) : Nat → Int
  | 0 => 0
  | i + 1 => sumF l i + ((l.getD i 0).toNat : Int)
theorem sumF_in (l : List UInt8) : ∀ i, 0 ≤ sumF l i ∧ sumF l i ≤ 255 * (i : Int)
  | 0 => by simp [sumF]
  | i + 1 => by
    have h := sumF_in l i
    have h2 := (l.getD i 0).toNat_lt
    simp only [sumF]; omega
def letS (l : List UInt8) : UInt8 := UInt8.ofNat (65 + (sumF l l.length % 26).toNat)

/-! codes -/
structure CodeI where
  place : List UInt8
  axis : Int
  sign : Int
abbrev cda (c : CodeI) : AVal := .agg [sv c.place, iv c.axis, iv c.sign]
def codeE (c : CodeI) : Int := firstE [whenE (!nameB c.place) 8, rangeE 0 2 c.axis, whenE (c.sign != 1 && c.sign != -1) 3]

structure CodeOk (c : CodeI) : Prop where
  name : nameB c.place = true
  axis : c.axis = 0 ∨ c.axis = 1 ∨ c.axis = 2
  sign : c.sign = 1 ∨ c.sign = -1
def preS (c : CodeI) : List UInt8 := c.place ++ [45, UInt8.ofNat (120 + c.axis.toNat), if c.sign = 1 then 43 else 45]
def codS (c : CodeI) : List UInt8 := preS c ++ [letS (preS c)]

end Fw
