/- The law on lanes: what it returns at any input. -/
import Derived.Test.YtombnimlolbekaaGreatDoorPuL5
import Derived.Test.YtombnimlolbekaaGreatDoorPuA
import Derived.Test.YtombnimlolbekaaGreatDoorFwC
set_option maxHeartbeats 16000000
namespace Fw
open Go
attribute [local irreducible] evCode evOps evOpsD evOper evOperD evOp evFn loopN T.All T.bind callPure callOp opsK opsDK restK seqK blockK loopS setK setQ giveK scalK gcK finish finS rfunK yldK yldB loopK

theorem spans32 {n : Nat} (hn : 1 ≤ n) (c : List (Int × Int)) (hl : c.length < 1000000) : RUN n 32 [csl c] = .ret (.own (cI c) c.length 2) := by
 obtain ⟨d, rfl⟩ : ∃ d, n = d + 1 := ⟨n - 1, by omega⟩
 rw [RUN, call_eq fe32 _ rfl]
 have hlim : c.length ≤ lim := by simp only [lim]; omega
 by_cases h : c.length = 0
 ·have : c = [] := List.eq_nil_of_length_eq_zero h
  subst this
  simp -implicitDefEqProofs [c32, lim, cI]
 ·simp -implicitDefEqProofs [c32, hlim, h]

theorem awake12 : RUN 60 12 [] = .ret (.p (.bool true)) := awake

def hdS : ACode → ACode
 | .seq a _ => a
 | c => c
def tlS : ACode → ACode
 | .seq _ b => b
 | c => c
end Fw
