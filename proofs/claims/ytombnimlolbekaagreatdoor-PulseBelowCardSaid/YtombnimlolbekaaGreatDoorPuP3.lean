/- The spread of runs: the pulse chapter and its reference. -/
import Derived.Test.YtombnimlolbekaaGreatDoorPuP2
set_option maxHeartbeats 8000000
namespace Fw
open Go
attribute [local irreducible] evCode evOps evOpsD evOper evOperD evOp evFn loopN T.All T.bind callPure callOp opsK opsDK restK seqK blockK loopS setK setQ giveK scalK gcK finish finS rfunK yldK yldB loopK

def hiF (l : List Int) : Nat → Int
 | 0 => l.getD 0 0
 | k + 1 => max (hiF l k) (l.getD (k + 1) 0)

theorem max161 {n : Nat} (hn : 1 ≤ n) (l : List Int) (h0 : 0 < l.length) (hl : l.length < 1000000) : RUN n 161 [isl l] = .ret (iv (hiF l (l.length - 1))) := by
 obtain ⟨d, rfl⟩ : ∃ d, n = d + 1 := ⟨n - 1, by omega⟩
 rw [RUN, call_eq fe161 _ rfl]
 obtain ⟨m, hm⟩ : ∃ m, l.length = m + 1 := ⟨l.length - 1, by omega⟩
 have hg0 : l.getD 0 0 = l[0] := by simp [List.getD_eq_getElem?_getD, List.getElem?_eq_getElem h0]
 let inv : Nat → St := fun k => ⟨[(0, isl l), (3, iv (hiF l k)), (4, iv (k + 1))], []⟩
 have hlt : ¬ (l.length : Int) < 1 := by omega
 have hx0 : ∃ r, pI l = .int .i64 l[0] :: r := by
  cases l with
  | nil => simp at h0
  | cons x r => exact ⟨pI r, rfl⟩
 obtain ⟨r, hr⟩ := hx0
 have hm1 : l.length - 1 = m := by omega
 have hcast : (l.length : Int) = m + 1 := by omega
 rw [hm1]
 simp -implicitDefEqProofs [c161, hlt, h0, hr]
 rw [loop_run inv m (e := .exit 0) (st' := ⟨(inv m).env ++ [(15, .p (.bool false))], (inv m).sto⟩) (by simp)]
 ·simp -implicitDefEqProofs [inv]
 ·simp only [inv, hiF, hg0]; rfl
 ·intro k hk
  have hi : k + 1 < l.length := by omega
  have hgi : l.getD (k + 1) 0 = l[k + 1] := by simp [List.getD_eq_getElem?_getD, List.getElem?_eq_getElem hi]
  have hhi : hiF l (k + 1) = max (hiF l k) l[k + 1] := by simp only [hiF, hgi]
  have hmx : maxInt (hiF l k) [iv l[k + 1]] = some (max (hiF l k) l[k + 1]) := by
   simp only [maxInt]
   congr 1
   split <;> omega
  have hb : (k : Int) + 1 < l.length := by omega
  have hbp : (0 : Int) ≤ (k : Int) + 1 := by omega
  have ht : ((k : Int) + 1).toNat = k + 1 := by omega
  have w := wrap64 (n := (k : Int) + 1 + 1) (by omega) (by omega)
  simp -implicitDefEqProofs [inv, loopS_eq, c161L0, hi, hb, hbp, ht, hmx, hhi, w]
 ·have hb : ¬ (m : Int) + 1 < l.length := by omega
  simp -implicitDefEqProofs [inv, loopS_eq, c161L0, hb]
 ·simp [loopFuel]; omega

theorem m158 : c158 = mapC (.p (.int .i64 0)) 8 := rfl
end Fw
